/-
  The reference draws a program and a name, and programs (DrawFnAt, DrawProgramValid), as functions of the bytes.
-/
import Derived.Test.YtccdmgncjlpebaaDoorGj

namespace Go.Proofs.YtccdmgncjlpebaaDoor
open Go.RowKit
set_option linter.unusedVariables false

set_option maxHeartbeats 400000 in
/-- A reader is opened; of the bytes it holds two thousand. -/
theorem open_fun (w : World) (a : Option Addr) (len cap : Nat) (bs : List Int) (hin : BytesRd w a len bs) (hcap : len ≤ cap) :
    Calls Tryd.prog 10 #[.slice a len cap] w fun e w' => ∃ a len cap, e = .returned (.pointer (some ⟨w.heap.size, 0, none⟩)) ∧ Rd w w' w.heap.size a len cap (bs.take 2000) 0 ∧ len ≤ 2000 ∧ w.heap.size < w'.heap.size := by
  by_cases hbig : 2000 < len
  · obtain ⟨b, off, x, rfl, _⟩ := hin.place (show 0 < len by omega)
    have hcz : ¬ cap = 0 := by omega
    go_enter Tryd.func10, Tryd.ntmps10
    go_wp2
    go_ret
    refine ⟨_, _, _, rfl, rd_new ⟨by have := hin.length; simp; omega, by rw [List.map_take]; exact hin.row.pre 2000, fun x hx => hin.byte x (List.mem_of_mem_take hx)⟩, by omega, by simp⟩
  · have HBS := Lib.hid (show bs.take 2000 = bs from List.take_of_length_le (by have := hin.length; omega))
    go_enter Tryd.func10, Tryd.ntmps10
    go_wp2
    go_ret
    exact ⟨_, _, _, rfl, by rw [HBS.out]; exact rd_new hin, by omega, by simp⟩

set_option maxRecDepth 100000 in
set_option maxHeartbeats 4000000 in
theorem drawProgramValid_any (w : World) (a : Option Addr) (len cap : Nat) (bs : List Int) (hin : BytesRd w a len bs) (hcap : len ≤ cap) :
    Calls Tryd.prog 8 #[.slice a len cap] w fun e w' => ∃ (pa : Option Addr) (pc : Nat), e = .returned (.agg (List.toArray [.slice pa (bentPF (bs.take 2000) 0).length pc])) ∧ (bentPF (bs.take 2000) 0).length ≤ 4 ∧ ListK 3 (FnP 20) (fun k => w.heap.size < k) w' pa (bentPF (bs.take 2000) 0) ∧ Below w.heap.size w w' := by
  have hb0 : Below w.heap.size w (w.alloc (.cells #[.slice none 0 0] 25)) := (Below.refl _ _).alloc (Nat.le_refl _) _
  have HB := Lib.hid (And.intro hb0 (And.intro (heap_alloc_new w (.cells #[.slice none 0 0] 25)) (And.intro (hin.later hb0) (World.size_alloc w (.cells #[.slice none 0 0] 25)))))
  clear hb0 hin
  go_enter Tryd.func8, Tryd.ntmps8
  go_upto_region 1 with fail
  obtain ⟨rb, hrb⟩ : ∃ b, b = w.heap.size := ⟨_, rfl⟩
  generalize w.alloc (.cells #[.slice none 0 0] 25) = W1 at HB ⊢
  have H0 := Lib.hid (show Below w.heap.size w W1 ∧ rb = w.heap.size ∧ W1.heap.size = w.heap.size + 1 ∧ W1.heap[rb]? = some (.cells #[.slice none 0 0] 25 (0, 0)) from ⟨HB.out.1, hrb, HB.out.2.2.2, by rw [hrb]; exact HB.out.2.1⟩)
  rw [← hrb] at HB ⊢
  clear hrb
  go_wp2_with fail
  refine (open_fun W1 a len cap bs HB.out.2.2.1 hcap).mono ?_
  rintro e w2 ⟨a1, len1, cap1, rfl, hrd2, hlen1, hsz2⟩
  have HRD := Lib.hid (And.intro hrd2 hlen1)
  clear hrd2 hlen1 hcap hsz2
  go_wp2_with fail
  refine (l3Bent_any HRD.out.2 0 w2 HRD.out.1 (by omega)).mono ?_
  rintro e w3 ⟨pa, pc, ps, q, rfl, hl, hx, -, -, ht, hF⟩
  have hb2 : Below w.heap.size w w2 := H0.out.1.trans (HRD.out.1.below.mono H0.out.1.size)
  have hb3 : Below w.heap.size w w3 := hb2.trans (Turned.below (S := fun k => k = W1.heap.size ∨ w2.heap.size ≤ k) ht hb2.size (fun k hk => by have := H0.out; have := hb2.size; omega))
  have hlt2 : rb < w2.heap.size := by have := HRD.out.1.below.size; have := H0.out; omega
  have hrow := (ht.block (b := rb) hlt2 (by have := H0.out; omega)).trans ((HRD.out.1.below.block rb (by have := H0.out; omega)).trans H0.out.2.2.2)
  have k0 := cell_of_row _ _ 0 _ _ _ hrow
  have z0 := frozen_of_row _ _ 0 _ _ hrow
  simp only [List.getElem?_toArray, List.getElem?_cons_zero] at k0
  have HE := Lib.hid (show (w3.setCell ⟨rb, 0, none⟩ (.slice pa ps.length pc)).heap[rb]? = some (.cells (List.toArray [.slice pa ps.length pc]) 25 (0, 0)) ∧ ps.length ≤ 4 ∧ ListK 3 (FnP 20) (fun k => w.heap.size < k) (w3.setCell ⟨rb, 0, none⟩ (.slice pa ps.length pc)) pa ps ∧ Below w.heap.size w (w3.setCell ⟨rb, 0, none⟩ (.slice pa ps.length pc)) ∧ bentPF (bs.take 2000) 0 = ps from by
    have hts := turned_store w3 rb 0 (.slice pa ps.length pc)
    refine ⟨(heap_setCell_same w3 rb 0 _ _ _ hrow).trans rfl, hl, (hx.turned (fnP_stays 20) hts (fun k _ h1 h2 => by have h1 : w2.heap.size ≤ k := h1; have h2 : k = rb := h2; omega)).mono (fnP_stays 20) (fun k _ h => by have h : w2.heap.size ≤ k := h; have := H0.out; show w.heap.size < k; omega), hb3.trans (hts.below (B := w.heap.size) hb3.size (fun k hk => by have := H0.out; omega)), hF⟩)
  clear hl hx ht hb2 hb3 hlt2 hrow hF
  go_wp2
  refine bodyPost_ret (results_cell_row rfl _ _ rb 25 (List.toArray [.slice pa ps.length pc]) (0, 0) _ rfl ?_ Tryd.underlying25 rfl (by kernel_rfl)) rfl ?_
  · exact HE.out.1
  obtain ⟨-, h1, h2, h3, h4⟩ := HE.out
  rw [h4]
  exact ⟨pa, pc, rfl, h1, h2, h3⟩

theorem results_cellF {P : Program} {fn : Func} {p u : Tmp} {ty : TypeId} (h : fn.results = #[.cell p ty, .tmp u]) (tmps : Array Value) (w : World) (g : Nat) (t : TypeId) (cs : Array Value) (fr : Nat × Nat) (d : TypeDesc)
    (hp : tmps.getD p undef = .pointer (some ⟨g, 0, none⟩)) (hg : w.heap[g]? = some (.cells cs t fr))
    (hu : P.underlying ty = some d) (hd : (match d with | .struct _ | .array _ _ => true | _ => false) = true) (hi : (P.info? ty).map (·.size) = some cs.size) :
    (results fn tmps).run P w = .ok (.tuple #[.agg cs, tmps.getD u undef]) w := by
  have hp' : tmps[p]?.getD undef = .pointer (some ⟨g, 0, none⟩) := by simpa using hp
  simp only [results, h]
  simp [hp', asAddr, run_loadVar_row w g t ty cs fr d hg hu hd hi]

set_option maxRecDepth 100000 in
set_option maxHeartbeats 4000000 in
theorem drawFnAt_any (w : World) (a : Option Addr) (len cap : Nat) (bs : List Int) (hin : BytesRd w a len bs) (hcap : len ≤ cap) :
    Calls Tryd.prog 4 #[.slice a len cap] w fun e w' => ∃ (pa : Option Addr) (pc : Nat) (ps : List FnD) (nm : ByteArray), e = .returned (.tuple #[.agg (List.toArray [.slice pa ps.length pc]), .string nm]) ∧ ps.length ≤ 4 ∧ ListK 3 (FnP 20) (fun k => w.heap.size < k) w' pa ps ∧ Below w.heap.size w w' := by
  have hb0 : Below w.heap.size w (w.alloc (.cells #[.slice none 0 0] 25)) := (Below.refl _ _).alloc (Nat.le_refl _) _
  have HB := Lib.hid (And.intro hb0 (And.intro (heap_alloc_new w (.cells #[.slice none 0 0] 25)) (And.intro (hin.later hb0) (World.size_alloc w (.cells #[.slice none 0 0] 25)))))
  clear hb0 hin
  go_enter Tryd.func4, Tryd.ntmps4
  go_upto_region 1 with fail
  obtain ⟨rb, hrb⟩ : ∃ b, b = w.heap.size := ⟨_, rfl⟩
  generalize w.alloc (.cells #[.slice none 0 0] 25) = W1 at HB ⊢
  have H0 := Lib.hid (show Below w.heap.size w W1 ∧ rb = w.heap.size ∧ W1.heap.size = w.heap.size + 1 ∧ W1.heap[rb]? = some (.cells #[.slice none 0 0] 25 (0, 0)) from ⟨HB.out.1, hrb, HB.out.2.2.2, by rw [hrb]; exact HB.out.2.1⟩)
  rw [← hrb] at HB ⊢
  clear hrb
  go_wp2_with fail
  refine (open_fun W1 a len cap bs HB.out.2.2.1 hcap).mono ?_
  rintro e w2 ⟨a1, len1, cap1, rfl, hrd2, hlen1, hsz2⟩
  have HRD := Lib.hid (And.intro hrd2 hlen1)
  clear hrd2 hlen1 hcap hsz2
  go_wp2_with fail
  refine (l3Bent_any HRD.out.2 0 w2 HRD.out.1 (by omega)).mono ?_
  rintro e w3 ⟨pa, pc, ps, q, rfl, hl, hx, hq, hrd3, ht, -⟩
  have H3 := Lib.hid (And.intro hl (And.intro hx (And.intro hq (And.intro hrd3 ht))))
  clear hl hx hq hrd3 ht
  go_wp2_with fail
  refine (of_fun W1 _ W1.heap.size a1 len1 cap1 _ q (some ⟨w3.heap.size, 0, none⟩) 6 6 [⟨#[102]⟩, ⟨#[103]⟩, ⟨#[104]⟩, ⟨#[109]⟩, ⟨#[113]⟩, ⟨#[]⟩] (H3.out.2.2.2.1.later' ((Below.refl _ _).alloc (Nat.le_refl _) _)) (StrsA.lit w3 [⟨#[102]⟩, ⟨#[103]⟩, ⟨#[104]⟩, ⟨#[109]⟩, ⟨#[113]⟩, ⟨#[]⟩] H3.out.2.2.2.1.lt) (by omega) HRD.out.2 (by have := H3.out.2.2.1; omega)).mono ?_
  rintro e w4 ⟨nm, -, rfl, hrd4, hg4, -⟩
  have HE := Lib.hid (show w4.heap[rb]? = some (.cells #[.slice none 0 0] 25 (0, 0)) ∧ (w4.setCell ⟨rb, 0, none⟩ (.slice pa ps.length pc)).heap[rb]? = some (.cells (List.toArray [.slice pa ps.length pc]) 25 (0, 0)) ∧ ps.length ≤ 4 ∧ ListK 3 (FnP 20) (fun k => w.heap.size < k) (w4.setCell ⟨rb, 0, none⟩ (.slice pa ps.length pc)) pa ps ∧ Below w.heap.size w (w4.setCell ⟨rb, 0, none⟩ (.slice pa ps.length pc)) from by
    obtain ⟨hl, hx, -, hrd3, ht⟩ := H3.out
    have hbr : w2.heap.size ≤ w3.heap.size := Turned.size (S := fun k => k = W1.heap.size ∨ w2.heap.size ≤ k) ht
    have hlt1 := HRD.out.1.lt
    have hba : Below w3.heap.size w3 (w3.alloc (.cells ([⟨#[102]⟩, ⟨#[103]⟩, ⟨#[104]⟩, ⟨#[109]⟩, ⟨#[113]⟩, ⟨#[]⟩].map Value.string).toArray 9)) := (Below.refl _ _).alloc (Nat.le_refl _) _
    have ht4 : TurnR W1.heap.size w2 w4 := (ht.trans (TurnR.below hba)).trans (TurnR.grown hg4)
    have hx4 : ListK 3 (FnP 20) (fun k => w2.heap.size ≤ k) w4 pa ps := (hx.below (fnP_stays 20) hba).turned (fnP_stays 20) (T := fun k => k = W1.heap.size ∨ (w3.alloc (.cells ([⟨#[102]⟩, ⟨#[103]⟩, ⟨#[104]⟩, ⟨#[109]⟩, ⟨#[113]⟩, ⟨#[]⟩].map Value.string).toArray 9)).heap.size ≤ k) (TurnR.grown hg4) (fun k h0 h1 h2 => by have h1 : w2.heap.size ≤ k := h1; omega)
    have hb2 : Below w.heap.size w w2 := H0.out.1.trans (HRD.out.1.below.mono H0.out.1.size)
    have hb4 : Below w.heap.size w w4 := hb2.trans (Turned.below (S := fun k => k = W1.heap.size ∨ w2.heap.size ≤ k) ht4 hb2.size (fun k hk => by have := H0.out; have := hb2.size; omega))
    have hlt2 : rb < w2.heap.size := by have := HRD.out.1.below.size; have := H0.out; omega
    have hrow := (ht4.block (b := rb) hlt2 (by have := H0.out; omega)).trans ((HRD.out.1.below.block rb (by have := H0.out; omega)).trans H0.out.2.2.2)
    have hts := turned_store w4 rb 0 (.slice pa ps.length pc)
    exact ⟨hrow, (heap_setCell_same w4 rb 0 _ _ _ hrow).trans rfl, hl, (hx4.turned (fnP_stays 20) hts (fun k _ h1 h2 => by have h1 : w2.heap.size ≤ k := h1; have h2 : k = rb := h2; omega)).mono (fnP_stays 20) (fun k _ h => by have h : w2.heap.size ≤ k := h; have := H0.out; show w.heap.size < k; omega), hb4.trans (hts.below (B := w.heap.size) hb4.size (fun k hk => by have := H0.out; omega))⟩)
  have k0 := cell_of_row _ _ 0 _ _ _ HE.out.1
  have z0 := frozen_of_row _ _ 0 _ _ HE.out.1
  simp only [List.getElem?_toArray, List.getElem?_cons_zero] at k0
  clear hrd4 hg4
  go_wp2
  refine bodyPost_ret (results_cellF rfl _ _ rb 25 (List.toArray [.slice pa ps.length pc]) (0, 0) _ rfl ?_ Tryd.underlying25 rfl (by kernel_rfl)) rfl ?_
  · exact HE.out.2.1
  exact ⟨pa, pc, ps, nm, rfl, HE.out.2.2⟩

end Go.Proofs.YtccdmgncjlpebaaDoor
