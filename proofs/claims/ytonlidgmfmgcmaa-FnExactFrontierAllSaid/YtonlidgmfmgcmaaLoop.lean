
/-
  The body of a loop, plain: what is reached backwards from its tails without going over its head.
-/
import Derived.Test.YtonlidgmfmgcmaaHeads2
import Derived.Test.YtonlidgmfmgcmaaBacks
namespace Go.Proofs.Ytonlidgmfmgcmaa
open Go.RowKit

inductive LoopR (g : List (List Int)) (h : Nat) : Nat → Prop
  | head : h < g.length → LoopR g h h
  | tail {p : Nat} : (p : Int) ∈ preds g (h : Int) → domB g h p = true → LoopR g h p
  | back {b p : Nat} : LoopR g h b → b ≠ h → (p : Int) ∈ preds g (b : Int) → reachB g (-1) p = true → LoopR g h p
theorem preds_lt {g : List (List Int)} {b : Int} {p : Nat} (h : (p : Int) ∈ preds g b) : p < g.length := by
  obtain ⟨i, hi, he⟩ := preds_mem h
  omega
theorem LoopR.lt {g : List (List Int)} {h v : Nat} (hl : LoopR g h v) : v < g.length := by
  cases hl with
  | head h => exact h
  | tail h _ => exact preds_lt h
  | back _ _ h _ => exact preds_lt h
theorem loop_closed {g : List (List Int)} {h : Nat} {S : Nat → Prop} (h0 : h < g.length → S h) (ht : ∀ p : Nat, (p : Int) ∈ preds g (h : Int) → domB g h p = true → S p)
    (hb : ∀ b p : Nat, S b → b ≠ h → (p : Int) ∈ preds g (b : Int) → reachB g (-1) p = true → S p) {v : Nat} (hl : LoopR g h v) : S v := by
  induction hl with
  | head h => exact h0 h
  | tail h1 h2 => exact ht _ h1 h2
  | back _ h2 h3 h4 ih => exact hb _ _ ih h2 h3 h4
open Classical in
noncomputable def loopL (g : List (List Int)) (h : Nat) : List Int := ((List.range g.length).map Int.ofNat).filter (fun v => decide (LoopR g h v.toNat))
theorem loopL_mem {g : List (List Int)} {h : Nat} {z : Int} : z ∈ loopL g h ↔ 0 ≤ z ∧ LoopR g h z.toNat := by
  unfold loopL
  simp only [List.mem_filter, List.mem_map, List.mem_range, decide_eq_true_eq]
  constructor
  · rintro ⟨⟨v, _, rfl⟩, h⟩
    exact ⟨by show (0 : Int) ≤ (v : Int); omega, h⟩
  · rintro ⟨h0, h⟩
    have := h.lt
    exact ⟨⟨z.toNat, this, by show ((z.toNat : Nat) : Int) = z; omega⟩, h⟩
theorem loopL_asc (g : List (List Int)) (h : Nat) : Asc (loopL g h) := (asc_range g.length).filter _
theorem loopL_len (g : List (List Int)) (h : Nat) : (loopL g h).length ≤ g.length := by
  unfold loopL
  refine Nat.le_trans (List.length_filter_le _ _) ?_
  simp

/-! ### the program's way: in depth -/
def predG (g : List (List Int)) : List (List Int) := (List.range g.length).map (fun b => preds g ((b : Nat) : Int))
theorem predG_len (g : List (List Int)) : (predG g).length = g.length := by simp [predG]
theorem predG_get {g : List (List Int)} {b : Nat} (h : b < g.length) : (predG g)[b]? = some (preds g (b : Int)) := by simp [predG, h]
theorem predG_fits {g : List (List Int)} (h : 0 < g.length) : Fits (predG g) := by
  refine ⟨by rw [predG_len]; exact h, fun u l hl x hx => ?_⟩
  have hu : u < g.length := by have := (List.getElem?_eq_some_iff.1 hl).1; rwa [predG_len] at this
  rw [predG_get hu] at hl
  cases hl
  obtain ⟨i, hi, rfl⟩ := preds_mem hx
  rw [predG_len]
  omega
theorem more_false {s s' : List Bool} (h : More s s') {v : Nat} (hv : s'[v]? = some false) : s[v]? = some false := by
  have hl := (List.getElem?_eq_some_iff.1 hv).1
  rw [h.length] at hl
  cases hb : s[v] with
  | false => rw [List.getElem?_eq_getElem hl, hb]
  | true =>
    have := h.more v (by rw [List.getElem?_eq_getElem hl, hb])
    rw [hv] at this
    simp at this
theorem dfs_sound2 {g : List (List Int)} (hg : Fits g) {P : Nat → Prop} {s0 : List Bool} (hP : ∀ (u w : Nat) (l : List Int), P u → g[u]? = some l → (w : Int) ∈ l → s0[w]? = some false → P w) :
    ∀ (f : Nat) (n : Int) (st : St), More s0 st.1 → 0 ≤ n → (seenAt st.1 n = false → P n.toNat) → ∀ v, (dfs g f n st).1[v]? = some true → st.1[v]? = some true ∨ P v
  | 0, _, _, _, _, _ => fun _ h => .inl h
  | f + 1, n, st, hm0, h0, hn => by
    unfold dfs
    split
    · exact fun _ h => .inl h
    · rename_i hs
      have hs : seenAt st.1 n = false := by simpa using hs
      have hr := hn hs
      have key : ∀ (l : List Int) (st1 : St), More st.1 st1.1 → (∀ x ∈ l, x ∈ g.getD n.toNat []) → (∀ v, st1.1[v]? = some true → st.1[v]? = some true ∨ P v) →
          ∀ v, (l.foldl (fun st m => dfs g f m st) st1).1[v]? = some true → st.1[v]? = some true ∨ P v := by
        intro l
        induction l with
        | nil => intro st1 _ _ h; exact h
        | cons x l ih =>
          intro st1 hm hx h
          have hxr := row_nonneg hg n.toNat x (hx x (by simp))
          refine ih (dfs g f x st1) (hm.trans (dfs_more g f x st1)) (fun y hy => hx y (by simp [hy])) ?_
          intro v hv
          rcases dfs_sound2 hg hP f x st1 (hm0.trans hm) hxr.1 (fun hun => by
            have hxin := hx x (by simp)
            rw [List.getD_eq_getElem?_getD] at hxin
            cases hgl : g[n.toNat]? with
            | none => rw [hgl] at hxin; simp at hxin
            | some k =>
              rw [hgl] at hxin
              exact hP n.toNat x.toNat k hr hgl (by rw [Int.toNat_of_nonneg hxr.1]; exact hxin) (more_false (hm0.trans hm) (seenAt_false hun))) v hv with h3 | h3
          · exact h v h3
          · exact .inr h3
      refine key _ _ (more_set _ _) (fun x hx => hx) ?_
      intro v hv
      rw [List.getElem?_set] at hv
      split at hv
      · rename_i e; subst e; exact .inr hr
      · exact .inl hv
theorem dfsL_sound {g : List (List Int)} (hg : Fits g) {P : Nat → Prop} {s0 : List Bool} (hP : ∀ (u w : Nat) (l : List Int), P u → g[u]? = some l → (w : Int) ∈ l → s0[w]? = some false → P w) (f : Nat) :
    ∀ (l : List Int) (st : St), More s0 st.1 → (∀ x ∈ l, 0 ≤ x ∧ (s0[x.toNat]? = some false → P x.toNat)) → ∀ v, (l.foldl (fun st m => dfs g f m st) st).1[v]? = some true → st.1[v]? = some true ∨ P v := by
  intro l
  induction l with
  | nil => intro st _ _ v h; exact .inl h
  | cons x l ih =>
    intro st hm hx v hv
    rcases ih (dfs g f x st) (hm.trans (dfs_more g f x st)) (fun y hy => hx y (by simp [hy])) v hv with h1 | h1
    · exact dfs_sound2 hg hP f x st hm (hx x (by simp)).1 (fun hun => (hx x (by simp)).2 (more_false hm (seenAt_false hun))) v h1
    · exact .inr h1
theorem dfsL_closed {g : List (List Int)} (hg : Fits g) (f : Nat) : ∀ (l : List Int) (st1 : St), st1.1.length = g.length → unseen st1.1 ≤ f → (∀ x ∈ l, 0 ≤ x ∧ x < g.length) →
    More st1.1 (l.foldl (fun st m => dfs g f m st) st1).1 ∧ (∀ x ∈ l, (l.foldl (fun st m => dfs g f m st) st1).1[x.toNat]? = some true) ∧
    ∀ (v : Nat) (k : List Int), (l.foldl (fun st m => dfs g f m st) st1).1[v]? = some true → st1.1[v]? ≠ some true → g[v]? = some k → ∀ x ∈ k, (l.foldl (fun st m => dfs g f m st) st1).1[x.toNat]? = some true := by
  intro l
  induction l with
  | nil => intro st1 _ _ _; exact ⟨More.refl _, fun x hx => by simp at hx, fun v k hv hn => absurd hv hn⟩
  | cons y l ih =>
    intro st1 hl hfu hx
    have hy := hx y (by simp)
    have hc := dfs_closed hg f y st1 hy.1 hy.2 hl hfu
    have hmd := dfs_more g f y st1
    have hih := ih (dfs g f y st1) (by rw [hmd.length]; exact hl) (Nat.le_trans (unseen_more hmd) hfu) (fun x h => hx x (by simp [h]))
    refine ⟨hmd.trans hih.1, fun x h => ?_, fun v k hv hn hk x hxk => ?_⟩
    · rcases List.mem_cons.1 h with rfl | h
      · exact hih.1.more _ hc.1
      · exact hih.2.1 x h
    · by_cases hd : (dfs g f y st1).1[v]? = some true
      · exact hih.1.more _ (hc.2 v k hd hn hk x hxk)
      · exact hih.2.2 v k hv hd hk x hxk

/-- Seen at the start: the head, and what is not reached. -/
noncomputable def loopS0 (g : List (List Int)) (h : Nat) : List Bool := (List.range g.length).map (fun v => decide (v = h) || !reachB g (-1) v)
theorem loopS0_len (g : List (List Int)) (h : Nat) : (loopS0 g h).length = g.length := by simp [loopS0]
theorem loopS0_get {g : List (List Int)} {h v : Nat} (hv : v < g.length) : (loopS0 g h)[v]? = some (decide (v = h) || !reachB g (-1) v) := by simp [loopS0, hv]
noncomputable def tailsTo (g : List (List Int)) (h : Nat) (k : Nat) : List Int := ((preds g (h : Int)).take k).filter (fun p => domB g h p.toNat)
noncomputable def loopTo (g : List (List Int)) (h : Nat) (k : Nat) : St := (tailsTo g h k).foldl (fun st m => dfs (predG g) g.length m st) (loopS0 g h, [])
theorem loopTo_yes {g : List (List Int)} {h k : Nat} {x : Int} (hx : (preds g (h : Int))[k]? = some x) (hd : domB g h x.toNat = true) : loopTo g h (k + 1) = dfs (predG g) g.length x (loopTo g h k) := by
  unfold loopTo tailsTo
  rw [take_succ_of hx, List.filter_append, List.foldl_append]
  simp [hd]
theorem loopTo_no {g : List (List Int)} {h k : Nat} {x : Int} (hx : (preds g (h : Int))[k]? = some x) (hd : domB g h x.toNat = false) : loopTo g h (k + 1) = loopTo g h k := by
  unfold loopTo tailsTo
  rw [take_succ_of hx, List.filter_append, List.foldl_append]
  simp [hd]
theorem loopTo_more (g : List (List Int)) (h k : Nat) : More (loopS0 g h) (loopTo g h k).1 := foldl_more (F := fun st m => dfs (predG g) g.length m st) (fun st m => dfs_more _ _ m st) _ (loopS0 g h, [])
/-- What the visit in depth has seen, of what is reached, is the body. -/
theorem loopTo_all {g : List (List Int)} {h : Nat} (hh : h < g.length) (hr : reachB g (-1) h = true) {v : Nat} (hv : v < g.length) :
    ((loopTo g h (preds g (h : Int)).length).1[v]? = some true ∧ reachB g (-1) v = true) ↔ LoopR g h v := by
  have hF : Fits (predG g) := predG_fits (by omega)
  have hm := loopTo_more g h (preds g (h : Int)).length
  have htl : ∀ x, x ∈ tailsTo g h (preds g (h : Int)).length ↔ x ∈ preds g (h : Int) ∧ domB g h x.toNat = true := by
    intro x; rw [tailsTo, List.take_length, List.mem_filter]
  have hcl := dfsL_closed hF g.length (tailsTo g h (preds g (h : Int)).length) (loopS0 g h, []) (by rw [predG_len]; exact loopS0_len g h) (by have := unseen_le (loopS0 g h); rw [loopS0_len] at this; exact this) (fun x hx => by
    obtain ⟨i, hi, rfl⟩ := preds_mem ((htl x).1 hx).1
    rw [predG_len]; omega)
  constructor
  · rintro ⟨h1, h2⟩
    rcases dfsL_sound hF (P := fun v => LoopR g h v ∧ v ≠ h) (s0 := loopS0 g h) (fun u w l hP hl hw hs => by
        have hu := hP.1.lt
        rw [predG_get hu] at hl
        cases hl
        have hwl := preds_lt hw
        rw [loopS0_get hwl] at hs
        simp only [Option.some.injEq, Bool.or_eq_false_iff, decide_eq_false_iff_not, Bool.not_eq_false'] at hs
        exact ⟨.back hP.1 hP.2 hw hs.2, hs.1⟩) g.length (tailsTo g h (preds g (h : Int)).length) (loopS0 g h, []) (More.refl _) (fun x hx => by
        obtain ⟨hx1, hx2⟩ := (htl x).1 hx
        obtain ⟨i, hi, rfl⟩ := preds_mem hx1
        refine ⟨by omega, fun hs => ?_⟩
        rw [Int.toNat_natCast] at hs hx2 ⊢
        rw [loopS0_get hi] at hs
        simp only [Option.some.injEq, Bool.or_eq_false_iff, decide_eq_false_iff_not] at hs
        exact ⟨.tail hx1 hx2, hs.1⟩) v h1 with h3 | h3
    · have h3 : (loopS0 g h)[v]? = some true := h3
      rw [loopS0_get hv, h2] at h3
      simp at h3
      subst h3
      exact .head hh
    · exact h3.1
  · intro hl
    refine loop_closed (S := fun v => (loopTo g h (preds g (h : Int)).length).1[v]? = some true ∧ reachB g (-1) v = true) (fun _ => ⟨hm.more h (by rw [loopS0_get hh]; simp), hr⟩) (fun p hp hd => ⟨?_, (domB_has hd).2⟩) (fun b p hb hbh hp hpr => ⟨?_, hpr⟩) hl
    · have := hcl.2.1 (p : Int) ((htl _).2 ⟨hp, by rw [Int.toNat_natCast]; exact hd⟩)
      rwa [Int.toNat_natCast] at this
    · have hbl : b < g.length := by
        have := (List.getElem?_eq_some_iff.1 hb.1).1
        rwa [hm.length, loopS0_len] at this
      have := hcl.2.2 b (preds g (b : Int)) hb.1 (by
        show (loopS0 g h)[b]? ≠ some true
        rw [loopS0_get hbl, hb.2]; simp [hbh]) (predG_get hbl) (p : Int) hp
      rwa [Int.toNat_natCast] at this

/-! ### the reference's way: a list of what is to be done -/
structure BI (g : List (List Int)) (h : Nat) (out work : List Int) : Prop where
  asc : Asc out
  sound : ∀ x ∈ out, 0 ≤ x ∧ LoopR g h x.toNat
  hin : (h : Int) ∈ out
  wk : ∀ x ∈ work, ∃ v : Nat, x = (v : Int) ∧ v < g.length ∧ (reachB g (-1) v = true → LoopR g h v)
  tails : ∀ p : Nat, (p : Int) ∈ preds g (h : Int) → domB g h p = true → (p : Int) ∈ out ∨ (p : Int) ∈ work
  clos : ∀ b p : Nat, (b : Int) ∈ out → b ≠ h → (p : Int) ∈ preds g (b : Int) → reachB g (-1) p = true → (p : Int) ∈ out ∨ (p : Int) ∈ work
theorem BI.start {g : List (List Int)} {h : Nat} (hh : h < g.length) {work : List Int} (hw : work = tailsTo g h (preds g (h : Int)).length) : BI g h [(h : Int)] work := by
  subst hw
  have htl : ∀ x, x ∈ tailsTo g h (preds g (h : Int)).length ↔ x ∈ preds g (h : Int) ∧ domB g h x.toNat = true := by
    intro x; rw [tailsTo, List.take_length, List.mem_filter]
  refine ⟨by simp [Asc], fun x hx => ?_, by simp, fun x hx => ?_, fun p hp hd => .inr ((htl _).2 ⟨hp, by rw [Int.toNat_natCast]; exact hd⟩), fun b p hb hbh => ?_⟩
  · rw [List.mem_singleton] at hx
    subst hx
    exact ⟨by omega, by rw [Int.toNat_natCast]; exact .head hh⟩
  · obtain ⟨h1, h2⟩ := (htl x).1 hx
    obtain ⟨i, hi, rfl⟩ := preds_mem h1
    exact ⟨i, rfl, hi, fun _ => .tail h1 (by rwa [Int.toNat_natCast] at h2)⟩
  · rw [List.mem_singleton] at hb
    exact absurd (by omega) hbh
theorem BI.skip {g : List (List Int)} {h b : Nat} {out work : List Int} (H : BI g h out ((b : Int) :: work)) (hb : (b : Int) ∈ out ∨ reachB g (-1) b = false) : BI g h out work := by
  refine ⟨H.asc, H.sound, H.hin, fun x hx => H.wk x (List.mem_cons_of_mem _ hx), fun p hp hd => ?_, fun c p hc hch hp hr => ?_⟩
  · rcases H.tails p hp hd with h1 | h1
    · exact .inl h1
    · rcases List.mem_cons.1 h1 with h2 | h2
      · rcases hb with h3 | h3
        · exact .inl (by rw [h2]; exact h3)
        · have : p = b := by omega
          subst this
          rw [(domB_has hd).2] at h3
          cases h3
      · exact .inr h2
  · rcases H.clos c p hc hch hp hr with h1 | h1
    · exact .inl h1
    · rcases List.mem_cons.1 h1 with h2 | h2
      · rcases hb with h3 | h3
        · exact .inl (by rw [h2]; exact h3)
        · have : p = b := by omega
          subst this
          rw [hr] at h3
          cases h3
      · exact .inr h2
theorem BI.take {g : List (List Int)} {h b : Nat} {out work : List Int} (H : BI g h out ((b : Int) :: work)) (hb : ¬ (b : Int) ∈ out) (hr : reachB g (-1) b = true) : BI g h (ins out b) (work ++ preds g (b : Int)) := by
  obtain ⟨v, hv, hvl, hvr⟩ := H.wk (b : Int) (by simp)
  have : v = b := by omega
  subst this
  have hlb := hvr hr
  have hvh : v ≠ h := fun e => hb (by rw [e]; exact H.hin)
  refine ⟨ins_asc _ H.asc, fun x hx => ?_, (ins_mem _ _ _).2 (.inr H.hin), fun x hx => ?_, fun p hp hd => ?_, fun c p hc hch hp hpr => ?_⟩
  · rcases (ins_mem _ _ _).1 hx with h1 | h1
    · subst h1; exact ⟨by omega, by rw [Int.toNat_natCast]; exact hlb⟩
    · exact H.sound x h1
  · rcases List.mem_append.1 hx with h1 | h1
    · exact H.wk x (List.mem_cons_of_mem _ h1)
    · obtain ⟨i, hi, rfl⟩ := preds_mem h1
      exact ⟨i, rfl, hi, fun hri => .back hlb hvh h1 hri⟩
  · rcases H.tails p hp hd with h1 | h1
    · exact .inl ((ins_mem _ _ _).2 (.inr h1))
    · rcases List.mem_cons.1 h1 with h2 | h2
      · exact .inl ((ins_mem _ _ _).2 (.inl h2))
      · exact .inr (List.mem_append_left _ h2)
  · rcases (ins_mem _ _ _).1 hc with h1 | h1
    · have : c = v := by omega
      subst this
      exact .inr (List.mem_append_right _ hp)
    · rcases H.clos c p h1 hch hp hpr with h2 | h2
      · exact .inl ((ins_mem _ _ _).2 (.inr h2))
      · rcases List.mem_cons.1 h2 with h3 | h3
        · exact .inl ((ins_mem _ _ _).2 (.inl h3))
        · exact .inr (List.mem_append_left _ h3)
theorem BI.done {g : List (List Int)} {h : Nat} {out : List Int} (H : BI g h out []) : out = loopL g h := by
  refine asc_ext H.asc (loopL_asc g h) (fun z => ⟨fun hz => loopL_mem.2 (H.sound z hz), fun hz => ?_⟩)
  obtain ⟨h0, hl⟩ := loopL_mem.1 hz
  have key := loop_closed (S := fun v => (v : Int) ∈ out) (fun _ => H.hin) (fun p hp hd => by
    rcases H.tails p hp hd with h1 | h1
    · exact h1
    · simp at h1) (fun b p hb hbh hp hr => by
    rcases H.clos b p hb hbh hp hr with h1 | h1
    · exact h1
    · simp at h1) hl
  rwa [Int.toNat_of_nonneg h0] at key
theorem BI.len {g : List (List Int)} {h : Nat} {out work : List Int} (H : BI g h out work) : out.length ≤ g.length := by
  have h1 : out = ((List.range g.length).map Int.ofNat).filter (fun v => decide (v ∈ out)) := by
    rw [← sortU_range (n := g.length) (fun z hz => by have h2 := H.sound z hz; have := h2.2.lt; omega), sortU_of_asc H.asc (fun z => Iff.rfl)]
  rw [h1]
  refine Nat.le_trans (List.length_filter_le _ _) ?_
  simp
theorem ins_len {xs : List Int} {x : Int} (ha : Asc xs) (hx : ¬ x ∈ xs) : (ins xs x).length = xs.length + 1 := by
  have h1 := ins_length_le xs x
  have hp : (x :: xs).Nodup := List.nodup_cons.2 ⟨hx, ha.imp (fun h => by omega)⟩
  have hq : (ins xs x).Nodup := (ins_asc x ha).imp (fun h => by omega)
  have h2 := ((List.perm_ext_iff_of_nodup hp hq).2 (fun z => by rw [ins_mem, List.mem_cons])).length_eq
  simp at h2
  omega

end Go.Proofs.Ytonlidgmfmgcmaa
