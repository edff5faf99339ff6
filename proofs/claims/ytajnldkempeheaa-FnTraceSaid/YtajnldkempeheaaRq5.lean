/-
  The reference's run of a unit on the heap: the phis of a block.
-/
import Derived.Test.YtajnldkempeheaaRq4

namespace Go.Proofs.Ytajnldkempeheaa
open Go.RowKit
set_option linter.unusedVariables false
set_option linter.unusedSimpArgs false

theorem idxOf_at {L : List Int} {v : Int} (h : v ∈ L) : L[L.idxOf v]? = some v := by
  have hl := List.idxOf_lt_length_of_mem h
  rw [List.getElem?_eq_getElem hl, List.getElem_idxOf]
theorem idxOf_first {L : List Int} {v : Int} {j : Nat} {y : Int} (hj : j < L.idxOf v) (hy : L[j]? = some y) : y ≠ v := by
  intro e
  have h1 := List.not_of_lt_findIdx (p := (· == v)) (xs := L) hj
  obtain ⟨h2, h3⟩ := List.getElem?_eq_some_iff.1 hy
  simp [h3, e] at h1
/-- The values of the phis, read ahead of all stores. -/
def phiVals (ps : List PhiD) (pl : Nat) (regs : List Int) : List Int := ps.map (fun p => atI regs (p.args.getD pl 0))
def phiTo (ps : List PhiD) (vs : List Int) (k : Nat) (regs : List Int) : List Int := ((ps.zip vs).take k).foldl (fun r p => setI r p.1.to p.2) regs
theorem phiTo_succ {ps : List PhiD} {vs : List Int} {k : Nat} {p : PhiD} {v : Int} (regs : List Int) (hp : ps[k]? = some p) (hv : vs[k]? = some v) : phiTo ps vs (k + 1) regs = setI (phiTo ps vs k regs) p.to v := by
  unfold phiTo
  rw [take_succ_of (show (ps.zip vs)[k]? = some (p, v) by rw [List.getElem?_zip_eq_some]; exact ⟨hp, hv⟩), List.foldl_append]
  rfl
theorem phiTo_all (ps : List PhiD) (pl : Nat) (regs : List Int) : phiTo ps (phiVals ps pl regs) ps.length regs = phiAll ps pl regs := by
  unfold phiTo phiAll phiVals
  rw [List.take_of_length_le (by simp)]

section
variable {w0 w : World} {rb gb n : Nat} {D : Nat → Prop} {regs : List Int}
set_option maxRecDepth 100000 in
set_option maxHeartbeats 4000000 in
theorem phisS_any {params rgs : Int} {blocks : List BlockD} {ba : Option Addr} {bc b fr : Nat} {x : BlockD} (hB : SliceRd 5 BlockR w0 ba blocks.length blocks) (hG : Gr w0 ba (nxs ⟨params, rgs, blocks⟩)) (hx : blocks[b]? = some x)
    (hph : ∀ f ∈ x.phis, (0 ≤ f.to ∧ f.to < (n : Int)) ∧ f.args.length = (predsC ⟨params, rgs, blocks⟩ b).length ∧ ∀ r ∈ f.args, 0 ≤ r ∧ r < (n : Int)) (hfr : (fr : Int) ∈ predsC ⟨params, rgs, blocks⟩ b)
    (hpl : x.phis.length ≤ 1048576) (hnb : blocks.length ≤ 160) (hnl : n ≤ 300) (hbase : Below w0.heap.size w0 w) (hr : RgSt w0.heap.size gb n D w regs) :
    Calls Try.prog 55 #[.pointer (some ⟨rb, 0, none⟩), .agg #[.int .i64 params, .int .i64 rgs, .slice ba blocks.length bc], .int .i64 (fr : Int), .int .i64 (b : Int), .slice (some ⟨gb, 0, none⟩) n n] w fun e w' => e = .returned (.tuple #[]) ∧ RgSt w0.heap.size gb n D w' (phiAll x.phis ((predsC ⟨params, rgs, blocks⟩ b).idxOf (fr : Int)) regs) ∧ Turned (fun k => k = gb) w w' := by
  have hblt := (List.getElem?_eq_some_iff.1 hx).1
  obtain ⟨qb, qo, phis, ins, jump, jon, nx, pa, pc, ia, ic, na, nc, hqa, hx', c0, -, -, -, -, hR⟩ := block_place hB (i := b) hblt
  subst hqa
  rw [hx] at hx'
  cases hx'
  obtain ⟨pa', pc', ia', ic', na', nc', hcs, ⟨⟨hpm, hpn⟩, hP⟩, -, -⟩ := hR
  simp only [List.cons.injEq, Value.slice.injEq, and_true, true_and] at hcs
  obtain ⟨⟨rfl, rfl⟩, -⟩ := hcs
  change SliceRd 2 PhiR w0 pa phis.length phis at hP
  simp only at hph hpl
  have hba : Below w.heap.size w (w.alloc (.cells #[.int .i64 params, .int .i64 rgs, .slice (some ⟨qb, qo, none⟩) blocks.length bc] 37)) := (Below.refl _ _).alloc (Nat.le_refl _) _
  have hrow := heap_alloc_new w (.cells #[.int .i64 params, .int .i64 rgs, .slice (some ⟨qb, qo, none⟩) blocks.length bc] 37)
  have hR1 := hr.later hba
  have hb01 := hbase.trans (hba.mono hbase.size)
  have hgl := hr.lt
  generalize hW : (w.alloc (.cells #[.int .i64 params, .int .i64 rgs, .slice (some ⟨qb, qo, none⟩) blocks.length bc] 37)) = W1 at hba hrow hR1 hb01
  have HW := Lib.hid hW
  have HBB := Lib.hid (And.intro hba (And.intro hb01 (And.intro hgl hbase.size)))
  have HR1 := Lib.hid hR1
  have HP := Lib.hid hP
  have HPH := Lib.hid hph
  have HFR := Lib.hid hfr
  have HG := Lib.hid hG
  have HBY := Lib.hid hr.byts
  have hbi : (b : Int) < (blocks.length : Int) := by omega
  obtain ⟨ib, hib⟩ : ∃ b, b = w.heap.size := ⟨_, rfl⟩
  rw [← hib] at hrow
  have HIB := Lib.hid hib
  have m0 := cell_of_row _ _ 0 _ _ _ hrow
  have m1 := cell_of_row _ _ 1 _ _ _ hrow
  have m2 := cell_of_row _ _ 2 _ _ _ hrow
  simp only [List.getElem?_toArray, List.getElem?_cons_zero, List.getElem?_cons_succ] at m0 m1 m2
  have c0' := cell_later hb01 c0
  clear hW hba hR1 hrow hP hph hfr hG hbase hr hgl hx hpm hpn hib hb01
  by_cases hz : phis.length = 0
  · have HZ := Lib.hid (show phiAll phis ((predsC ⟨params, rgs, blocks⟩ b).idxOf (fr : Int)) regs = regs by rw [List.length_eq_zero_iff.1 hz]; rfl)
    rw [HZ.out]
    rw [hz] at c0'
    clear HZ
    go_enter Try.func55, Try.ntmps55
    go_upto_region 1 with fail
    rw [HW.out, ← HIB.out]
    go_wp2
    refine bodyPost_ret (results_none rfl _ _ _) rfl ?_
    exact ⟨rfl, HR1.out, turned_of_below HBB.out.1 (fun k h1 h2 => by omega)⟩
  · have hz0 : 0 < phis.length := by omega
    have hze : ((phis.length : Int) == 0) = false := by rw [beq_eq_false_iff_ne]; omega
    clear hz
    obtain ⟨L, hL⟩ : ∃ L, L = predsC ⟨params, rgs, blocks⟩ b := ⟨_, rfl⟩
    have HL := Lib.hid hL
    have HFL := Lib.hid (show (fr : Int) ∈ L by rw [hL]; exact HFR.out)
    have HPL := Lib.hid (show ∀ f ∈ phis, (0 ≤ f.to ∧ f.to < (n : Int)) ∧ f.args.length = L.length ∧ ∀ r ∈ f.args, 0 ≤ r ∧ r < (n : Int) by rw [hL]; exact HPH.out)
    have hLl : L.length ≤ 160 := by rw [hL]; exact Nat.le_trans (preds_len _ _) (by simp [nxs]; exact hnb)
    have HPC := Lib.hid (l7Preds_any params rgs (some ⟨qb, qo, none⟩) bc (nxs ⟨params, rgs, blocks⟩) (b : Int) W1 (HG.out.later HBB.out.2.1))
    have hnx : (nxs ⟨params, rgs, blocks⟩).length = blocks.length := by simp [nxs]
    rw [hnx] at HPC
    change Hid (Calls _ _ _ _ fun e w' => RetInts W1 (predsC ⟨params, rgs, blocks⟩ b) (predsC ⟨params, rgs, blocks⟩ b).length e w') at HPC
    rw [← hL] at HPC
    rw [← hL]
    obtain ⟨pl, hpl'⟩ : ∃ k, k = L.idxOf (fr : Int) := ⟨_, rfl⟩
    rw [← hpl']
    have HAT := Lib.hid (show L[pl]? = some (fr : Int) from hpl' ▸ idxOf_at HFL.out)
    have hpll : pl < L.length := (List.getElem?_eq_some_iff.1 HAT.out).1
    have HNO := Lib.hid (fun (j : Nat) (y : Int) (hj : j < pl) (hy : L[j]? = some y) => idxOf_first (L := L) (v := (fr : Int)) (hpl' ▸ hj) hy)
    have HALL := Lib.hid (phiTo_all phis pl regs)
    rw [← HALL.out]
    obtain ⟨vs, hvs⟩ : ∃ vs, vs = phiVals phis pl regs := ⟨_, rfl⟩
    rw [← hvs]
    have HVS := Lib.hid hvs
    have hvl : vs.length = phis.length := by rw [hvs]; simp [phiVals]
    have HVL := Lib.hid hvl
    clear hL hnx hpl' hvs hvl HPH HFR HG HFL HALL
    go_enter Try.func55, Try.ntmps55
    go_upto_region 1 with fail
    rw [HW.out, ← HIB.out]
    go_wp2_with fail
    refine HPC.out.mono ?_
    rintro e w2 ⟨a2, c2, rfl, hown2, hb2⟩
    have HL2 := Lib.hid (ints_of_own hown2).toIntsRd
    have HB2 := Lib.hid hb2
    have m2 := cell_later hb2 m2
    have c0' := cell_later hb2 c0'
    clear hown2 hb2 m0 m1
    go_wp2
    go_loopg [11] pl (fun F i wr => ∃ j : Nat, j + F = pl ∧ i = .int .i64 j ∧ wr = w2)
    case atStart => exact ⟨0, by omega, rfl, rfl⟩
    case round =>
      obtain ⟨j, hj, rfl, rfl⟩ := hrel
      obtain ⟨lb, lo, y, hla, hy, hcy⟩ := HL2.out.place (i := j) (by omega)
      have HA2 := Lib.hid hla
      subst hla
      have hjl : (j : Int) < (L.length : Int) := by omega
      by_cases hlt : j < pl
      · have hne : (y != (fr : Int)) = true := by have := HNO.out j y hlt hy; simpa using this
        clear hy
        go_wp2
        go_roundg (pl - (j + 1))
        case measure => omega
        case rel => exact ⟨j + 1, by omega, by go_num, rfl⟩
      · obtain rfl : j = pl := by omega
        have hyf : y = (fr : Int) := by have := HAT.out; rw [hy] at this; exact Option.some.inj this
        subst hyf
        have HG0 := Lib.hid (Gath.start wr)
        clear hy hlt hj
        go_wp2
        obtain ⟨w2, rfl⟩ : ∃ wo, wo = wr := ⟨wr, rfl⟩
        go_loopg [12, 13] phis.length (fun F o i wr => ∃ k : Nat, k + F = phis.length ∧ i = .int .i64 k ∧ ∃ oa on oc, o = .slice oa on oc ∧ Hid (Gath w2 (vs.take k) oa on oc wr))
        case atStart => exact ⟨0, by omega, rfl, _, _, _, rfl, HG0⟩
        case round =>
          obtain ⟨k, hk, rfl, oa, on, oc, rfl, HGa⟩ := hrel
          clear HG0
          have hon := HGa.out.len
          rw [List.length_take, Nat.min_eq_left (by have := HVL.out; omega)] at hon
          have HON := Lib.hid hon
          have hon3 : on ≤ 1048576 := by omega
          clear hon
          have m2 := cell_later HGa.out.below m2
          have c0' := cell_later HGa.out.below c0'
          have HBR := Lib.hid (show Below w0.heap.size w0 wr ∧ Below w.heap.size w wr ∧ Below W1.heap.size W1 wr from by
            have h1 := HB2.out.trans (HGa.out.below.mono HB2.out.size)
            exact ⟨HBB.out.2.1.trans (h1.mono HBB.out.2.1.size), HBB.out.1.trans (h1.mono HBB.out.1.size), h1⟩)
          by_cases hlt : k < phis.length
          · obtain ⟨fb, fo, ft, args, fa, fc, hfa, hp, p0, p1, hFR⟩ := phi_place HP.out hlt
            subst hfa
            obtain ⟨fa', fc', hcs, -, hA⟩ := hFR
            simp only [List.cons.injEq, Value.slice.injEq, and_true, true_and] at hcs
            obtain ⟨rfl, rfl⟩ := hcs
            change IntsRd w0 fa args.length args at hA
            have hpf := HPL.out _ (List.mem_of_getElem? hp)
            obtain ⟨ab, ao, r, haa, hr0, hcr⟩ := (hA.later HBR.out.1).place (i := j) (by have h1 : args.length = L.length := hpf.2.1; rw [h1]; exact hpll)
            subst haa
            have hrr := hpf.2.2 r (List.mem_of_getElem? hr0)
            obtain ⟨ir, rfl⟩ : ∃ i : Nat, r = (i : Int) := ⟨r.toNat, by omega⟩
            have rx := (HR1.out.later HBR.out.2.2).at (j := ir) (by omega)
            have hxl : (ir : Int) < (n : Int) := hrr.2
            have p1 := cell_later HBR.out.1 p1
            have hki : (k : Int) < (phis.length : Int) := by omega
            have hja : (j : Int) < (args.length : Int) := by have h1 : args.length = L.length := hpf.2.1; rw [h1]; exact hjl
            have HT := Lib.hid (show vs.take (k + 1) = vs.take k ++ [atI regs (ir : Int)] by
              refine take_succ_of ?_
              rw [HVS.out, phiVals, List.getElem?_map, hp]
              show some (atI regs (args.getD j 0)) = _
              rw [List.getD_eq_getElem?_getD, hr0]; rfl)
            clear hp hr0 hrr hpf hA p0
            generalize atI regs (ir : Int) = v at rx HT
            go_wp2_with (at_builtin; refine app_ints rfl (.tmp 46) (.tmp 63) rfl w2.heap.size _ on _ rfl (HGa.out.row.alloc _) _ 1 _ [v] rfl rfl (rowAt_one _ _ _) (by rintro ⟨⟩) (by omega) (by have := HGa.out.below.size; simp; omega) ?_; intro a5 c5 w5 hown5 hg5 hlies5)
            have HN2 := Lib.hid (HGa.out.push hown5 hg5)
            clear hown5 hg5 hlies5
            go_roundg (phis.length - (k + 1))
            case measure => omega
            case rel => exact ⟨k + 1, by omega, by go_num, a5, _, c5, rfl, Lib.hid (by rw [HT.out]; exact HN2.out)⟩
          · obtain rfl : k = phis.length := by omega
            have HLI := Lib.hid (show IntsRd wr oa phis.length vs from by
              have h1 := HGa.out.row
              rw [List.take_of_length_le (by rw [HVL.out]; exact Nat.le_refl _)] at h1
              exact ⟨HVL.out, rowAt_of_own h1⟩)
            obtain rfl : on = phis.length := HON.out
            have HLO := Lib.hid (show wr.ownsRow w2.heap.size 3 1 (.slice oa phis.length oc) phis.length (vs.map (Value.int .i64)) from by
              have h1 := HGa.out.row
              rw [List.take_of_length_le (by rw [HVL.out]; exact Nat.le_refl _)] at h1
              exact h1)
            have HGL := Lib.hid (show gb < w.heap.size ∧ w.heap.size < w2.heap.size ∧ w0.heap.size ≤ gb ∧ w2.heap.size ≤ wr.heap.size from by
              have h1 := HBB.out
              have h2 := HB2.out.size
              have h3 : w.heap.size < W1.heap.size := by rw [← HW.out, World.size_alloc]; omega
              exact ⟨h1.2.2.1.2, by omega, h1.2.2.1.1, HGa.out.below.size⟩)
            have HR3 := Lib.hid (HR1.out.later HBR.out.2.2)
            go_wp2
            obtain ⟨w3, rfl⟩ : ∃ wo, wo = wr := ⟨wr, rfl⟩
            go_loopg [14] phis.length (fun F i wr => ∃ k : Nat, k + F = phis.length ∧ i = .int .i64 k ∧ Hid (RgSt w0.heap.size gb n D wr (phiTo phis vs k regs) ∧ Turned (fun k => k = gb) w3 wr))
            case atStart => exact ⟨0, by omega, rfl, Lib.hid ⟨HR3.out, Turned.refl _ _⟩⟩
            case round =>
              obtain ⟨k, hk, rfl, HRT⟩ := hrel
              have HB0 := Lib.hid (show Below w0.heap.size w0 wr from HBR.out.1.trans (HRT.out.2.below HBR.out.1.size (fun k hk => by have := HGL.out; omega)))
              by_cases hlt : k < phis.length
              · obtain ⟨fb, fo, ft, args, fa, fc, hfa, hp, p0, p1, -⟩ := phi_place HP.out hlt
                subst hfa
                have hpf := (HPL.out _ (List.mem_of_getElem? hp)).1
                change 0 ≤ ft ∧ ft < (n : Int) at hpf
                obtain ⟨jt, rfl⟩ : ∃ i : Nat, ft = (i : Int) := ⟨ft.toNat, by omega⟩
                have rt := HRT.out.1.at (j := jt) (by omega)
                have rf := HRT.out.1.free jt
                have jl : (jt : Int) < (n : Int) := hpf.2
                have hmb := (World.block_lt_of_cell? w3 _ m2)
                have m2 := (World.cell?_of_block (HRT.out.2.block ib hmb (by have := HIB.out; have := HGL.out; omega))).trans m2
                have c0' := cell_later HB0.out c0
                have p0 := cell_later HB0.out p0
                have hki : (k : Int) < (phis.length : Int) := by omega
                have hli : IntsRd wr oa phis.length vs := ⟨HVL.out, rowAt_of_own (own_turned HLO.out HRT.out.2 (fun k hk => by have := (HLO.out.lt k hk).1; have := HGL.out; omega))⟩
                obtain ⟨lb2, lo2, v, hla2, hv, hcv⟩ := hli.place hlt
                subst hla2
                have HST := Lib.hid (phiTo_succ regs hp hv)
                have HVB := Lib.hid (show Byt v by
                  have h1 := List.mem_of_getElem? hv
                  rw [HVS.out] at h1
                  obtain ⟨p, -, rfl⟩ := List.mem_map.1 h1
                  exact HBY.out.at _)
                have HE := Lib.hid (show RgSt w0.heap.size gb n D (wr.drew.setCell ⟨gb, jt, none⟩ (.int .i64 v)) (phiTo phis vs (k + 1) regs) ∧ Turned (fun k => k = gb) w3 (wr.drew.setCell ⟨gb, jt, none⟩ (.int .i64 v)) from by
                  have hd : Below wr.heap.size wr wr.drew := (Below.refl _ _).drew
                  rw [HST.out]
                  exact ⟨(HRT.out.1.later hd).put jt HVB.out, (HRT.out.2.trans (turned_of_below hd (fun k h1 h2 => by omega))).trans (turned_store wr.drew gb jt (.int .i64 v))⟩)
                clear hp hpf p1 hmb hli hv
                go_upto_region 14 with fail
                go_still_tail 16, (by kernel_rfl)
                change wpList _ _ _ _ _ wr.drew
                go_wp2
                go_roundg (phis.length - (k + 1))
                case measure => omega
                case rel => exact ⟨k + 1, by omega, by go_num, HE⟩
              · obtain rfl : k = phis.length := by omega
                go_wp2
                go_end0
                exact ⟨rfl, HRT.out.1, (turned_of_below HBR.out.2.1 (fun k h1 h2 => by omega)).trans HRT.out.2⟩
end

end Go.Proofs.Ytajnldkempeheaa
