
/-
  Slices of slices of ints: what it means that one reads as a list of rows, or is owned; the walks of the laws' helpers on them (sizes, copies, comparison, marks).
-/
import Derived.Test.YtonlidgmfmgcmaaGreatBase
import Derived.Test.YtonlidgmfmgcmaaGreatCore

namespace Go.Proofs.YtonlidgmfmgcmaaGreat
open Go.RowKit

/-- One row of ints: where it lies, its capacity, the ints. -/
structure Hd where
  a : Option Addr
  cap : Nat
  xs : List Int
def Hd.val (h : Hd) : Value := .slice h.a h.xs.length h.cap

/-- A slice of slices reads as these rows. -/
structure MatRd (w : World) (a : Option Addr) (len : Nat) (rs : List Hd) : Prop where
  length : rs.length = len
  row : RowAt w a (rs.map Hd.val)
  rows : ∀ r ∈ rs, IntsRd w r.a r.xs.length r.xs
/-- The same, and all can be cut. -/
structure MatAt (w : World) (a : Option Addr) (len cap : Nat) (rs : List Hd) : Prop extends MatRd w a len rs where
  le : len ≤ cap
  max : cap ≤ maxLen
  addr : (a = none ∧ cap = 0) ∨ ∃ b off, a = some ⟨b, off, none⟩
  rows' : ∀ r ∈ rs, IntsAt w r.a r.xs.length r.cap r.xs

theorem MatRd.later {w w' : World} {a : Option Addr} {len : Nat} {rows : List Hd} (h : MatRd w a len rows) (hb : Below w.heap.size w w') : MatRd w' a len rows :=
  ⟨h.length, h.row.later hb, fun r hr => (h.rows r hr).later hb⟩
theorem MatAt.later {w w' : World} {a : Option Addr} {len cap : Nat} {rows : List Hd} (h : MatAt w a len cap rows) (hb : Below w.heap.size w w') : MatAt w' a len cap rows :=
  ⟨h.toMatRd.later hb, h.le, h.max, h.addr, fun r hr => (h.rows' r hr).later hb⟩
theorem MatRd.place {w : World} {a : Option Addr} {len : Nat} {rows : List Hd} (h : MatRd w a len rows) {i : Nat} (hi : i < len) :
    ∃ b off ai ci xs, a = some ⟨b, off, none⟩ ∧ rows[i]? = some ⟨ai, ci, xs⟩ ∧ w.cell? ⟨b, off + i, none⟩ = some (.slice ai xs.length ci) ∧ IntsRd w ai xs.length xs := by
  have hl := h.length
  rcases h.row with h0 | ⟨b, off, rfl, hc⟩
  · have : rows = [] := by simpa using h0
    subst this; simp at hl; omega
  · have hx : rows[i]? = some (rows[i]'(by omega)) := List.getElem?_eq_getElem _
    exact ⟨b, off, _, _, _, rfl, hx, hc i _ (by rw [List.getElem?_map, hx]; rfl), h.rows _ (List.getElem_mem _)⟩

/-- A slice of slices that was made by the call: all its blocks lie in [lo, hi), and no two of its rows share memory. -/
structure MatOwn (w : World) (lo hi : Nat) (a : Option Addr) (len cap : Nat) (rs : List Hd) : Prop where
  own : w.ownsRow lo 26 1 (.slice a len cap) len (rs.map Hd.val)
  ownHi : ∀ k, (Value.slice a len cap).ownBlock = some k → k < hi
  rows : ∀ r ∈ rs, w.ownsRow lo 3 1 r.val r.xs.length (r.xs.map (Value.int .i64))
  rowsHi : ∀ r ∈ rs, ∀ k, r.val.ownBlock = some k → k < hi
  apart : (rs.filterMap (·.val.ownBlock)).Nodup

theorem MatOwn.at {w : World} {lo hi : Nat} {a : Option Addr} {len cap : Nat} {rows : List Hd} (h : MatOwn w lo hi a len cap rows) : MatAt w a len cap rows :=
  ⟨⟨by have := h.own.1; simpa using this, rowAt_of_own h.own, fun r hr => (ints_of_own (h.rows r hr)).toIntsRd⟩, (own_cap h.own).1, (own_cap h.own).2, own_addr h.own, fun r hr => ints_of_own (h.rows r hr)⟩
theorem MatOwn.turned {S : Nat → Prop} {w w' : World} {lo hi : Nat} {a : Option Addr} {len cap : Nat} {rows : List Hd} (h : MatOwn w lo hi a len cap rows) (ht : Turned S w w') (hS : ∀ k, S k → k < lo ∨ hi ≤ k) : MatOwn w' lo hi a len cap rows :=
  ⟨own_turned h.own ht (fun k hk hs => by have h1 := (h.own.lt k hk).1; have h2 := h.ownHi k hk; have := hS k hs; omega), h.ownHi,
    fun r hr => own_turned (h.rows r hr) ht (fun k hk hs => by have h1 := ((h.rows r hr).lt k hk).1; have h2 := h.rowsHi r hr k hk; have := hS k hs; omega), h.rowsHi, h.apart⟩
theorem MatOwn.below {w w' : World} {lo hi : Nat} {a : Option Addr} {len cap : Nat} {rows : List Hd} (h : MatOwn w lo hi a len cap rows) (hb : Below w.heap.size w w') : MatOwn w' lo hi a len cap rows :=
  h.turned (S := fun k => w.heap.size ≤ k ∧ hi ≤ k) (turned_of_below hb (fun k hk hk' => by omega)) (fun k hk => .inr hk.2)

def total (rows : List Hd) : Nat := (rows.map (fun r => r.xs.length)).sum
theorem total_snoc (rows : List Hd) (r : Hd) : total (rows ++ [r]) = total rows + r.xs.length := by simp [total]
theorem total_take (rows : List Hd) (k : Nat) : total (rows.take k) ≤ total rows := by
  have : total rows = total (rows.take k) + total (rows.drop k) := by rw [total, total, total, ← List.sum_append, ← List.map_append, List.take_append_drop]
  omega

/-- The size is within what was left, or the answer is -1. -/
def Sized (left : Int) (tot : Nat) (e : Ending) : Prop := (left < tot ∧ e = .returned (.int .i64 (-1))) ∨ (tot ≤ left ∧ e = .returned (.int .i64 (left - tot)))

/-! ### comparison -/
end Go.Proofs.YtonlidgmfmgcmaaGreat

/-
  Copies of slices of slices (toIntSS), and the marks by which the laws look for shared memory: markIntS writes running numbers into a slice, heldIntS looks whether they are still there; the same for slices of slices.
-/
namespace Go.Proofs.YtonlidgmfmgcmaaGreat
open Go.RowKit

theorem info_ints : (Tryz.prog.info? 26).map (fun i => (i.zero, i.size, i.bytes)) = some (some (.slice none 0 0), 1, 24) := by kernel_rfl
theorem und_mat : Tryz.prog.underlying 42 = some (.slice 26) := by kernel_rfl

def nilHd : Hd := ⟨none, 0, []⟩
theorem nils_val (n : Nat) : (List.replicate n nilHd).map Hd.val = List.replicate n (.slice none 0 0) := by simp [nilHd, Hd.val]
theorem nils_blocks (n : Nat) : (List.replicate n nilHd).filterMap (·.val.ownBlock) = [] := by
  rw [List.filterMap_eq_nil_iff]
  intro r hr
  rw [(List.mem_replicate.1 hr).2]
  rfl

/-- A row of the call's own is put in the place of the first nil row. -/
theorem mat_put {w : World} {lo hi hi' g len : Nat} {done : List Hd} {m : Nat} {r : Hd} (h : MatOwn w lo hi (some ⟨g, 0, none⟩) len len (done ++ List.replicate (m + 1) nilHd))
    (hr : w.ownsRow lo 3 1 r.val r.xs.length (r.xs.map (Value.int .i64))) (hhi : hi ≤ hi') (hgl : g < hi') (hrhi : ∀ k, r.val.ownBlock = some k → hi ≤ k ∧ k < hi') :
    MatOwn (w.setCell ⟨g, done.length, none⟩ r.val) lo hi' (some ⟨g, 0, none⟩) len len ((done ++ [r]) ++ List.replicate m nilHd) := by
  have hset : ((done ++ List.replicate (m + 1) nilHd).map Hd.val).set done.length r.val = ((done ++ [r]) ++ List.replicate m nilHd).map Hd.val := by
    rw [List.map_append, List.set_append_right _ _ (by simp), List.length_map, Nat.sub_self, List.replicate_succ]
    simp
  have hgh := h.ownHi g rfl
  have hturn : w.grownBy (w.setCell ⟨g, done.length, none⟩ r.val) (some g) := (h.own.stored done.length r.val).2
  have hmem : ∀ x ∈ (done ++ [r]) ++ List.replicate m nilHd, x ∈ done ++ List.replicate (m + 1) nilHd ∨ x = r := by
    intro x hx
    simp only [List.mem_append, List.mem_singleton] at hx ⊢
    rcases hx with (hx | hx) | hx
    · exact .inl (.inl hx)
    · exact .inr hx
    · exact .inl (.inr (by rw [List.replicate_succ]; exact List.mem_cons_of_mem _ hx))
  have hne : ∀ x : Hd, (w.ownsRow lo 3 1 x.val x.xs.length (x.xs.map (Value.int .i64))) → ∀ k, x.val.ownBlock = some k → ¬ k = g := by
    intro x hx k hk hkg
    subst hkg
    rcases hx.2 with ⟨hv, _⟩ | ⟨g', cap', cur', hv, _, hgg, _⟩
    · rw [hv] at hk; cases hk
    · rw [hv] at hk
      simp only [Value.ownBlock, Option.some.injEq] at hk
      subst hk
      rcases h.own.2 with ⟨hv2, _⟩ | ⟨g2, cap2, cur2, hv2, _, hgg2, _⟩
      · simp at hv2
      · simp only [Value.slice.injEq, Option.some.injEq, Addr.mk.injEq, and_true] at hv2
        obtain ⟨rfl, _⟩ := hv2
        rw [hgg] at hgg2
        simp at hgg2
  refine ⟨by rw [← hset]; exact (h.own.stored done.length r.val).1, fun k hk => by have := h.ownHi k hk; omega, fun x hx => ?_, fun x hx k hk => ?_, ?_⟩
  · rcases hmem x hx with hx | rfl
    · exact own_turned (S := fun k => k = g) (h.rows x hx) (turned_of_grown hturn (fun k hk => by cases hk; rfl)) (fun k hk => hne x (h.rows x hx) k hk)
    · exact own_turned (S := fun k => k = g) hr (turned_of_grown hturn (fun k hk => by cases hk; rfl)) (fun k hk => hne x hr k hk)
  · rcases hmem x hx with hx | rfl
    · have := h.rowsHi x hx k hk; omega
    · exact (hrhi k hk).2
  · have hap := h.apart
    rw [List.filterMap_append, nils_blocks, List.append_nil] at hap
    rw [List.filterMap_append, nils_blocks, List.append_nil, List.filterMap_append, List.nodup_append]
    refine ⟨hap, ?_, ?_⟩
    · cases hb : r.val.ownBlock <;> simp [hb]
    · intro x hx y hy
      obtain ⟨z, hz, hzx⟩ := List.mem_filterMap.1 hx
      obtain ⟨z', hz', hzy⟩ := List.mem_filterMap.1 hy
      simp at hz'
      subst hz'
      have h1 := h.rowsHi z (by simp [hz]) x hzx
      have h2 := (hrhi y hzy).1
      omega

/-- The call returned a new slice of slices that reads so; nothing that was there has changed. -/
def RetMat (w : World) (xss : List (List Int)) (n : Nat) (e : Ending) (w' : World) : Prop :=
  ∃ a cap rows, e = .returned (.slice a n cap) ∧ MatOwn w' w.heap.size w'.heap.size a n cap rows ∧ rows.map Hd.xs = xss ∧ Below w.heap.size w w'

/-- Running numbers, cut into rows. -/
def runs : Int → List Nat → List (List Int)
  | _, [] => []
  | k, n :: ns => run k n :: runs (k + n) ns
theorem runs_get : ∀ (ns : List Nat) (k : Int) (i n : Nat), ns[i]? = some n → (runs k ns)[i]? = some (run (k + ((ns.take i).sum : Nat)) n)
  | [], _, _, _, h => by simp at h
  | m :: ns, k, 0, n, h => by simp at h; subst h; simp [runs]
  | m :: ns, k, i + 1, n, h => by
    have := runs_get ns (k + m) i n (by simpa using h)
    simp only [runs, List.getElem?_cons_succ, this, List.take_succ_cons, List.sum_cons, Int.natCast_add, Int.add_assoc]
theorem runs_snoc : ∀ (ns : List Nat) (k : Int) (n : Nat), runs k (ns ++ [n]) = runs k ns ++ [run (k + (ns.sum : Nat)) n]
  | [], k, n => by simp [runs]
  | m :: ns, k, n => by simp [runs, runs_snoc ns (k + m) n, Int.add_assoc]

/-- The blocks of a list of rows with one taken out. -/
theorem mat_mark {w w' : World} {lo hi : Nat} {a : Option Addr} {len cap : Nat} {A B : List Hd} {r : Hd} {ys : List Int} (h : MatOwn w lo hi a len cap (A ++ r :: B)) (hl : ys.length = r.xs.length)
    (hr : w'.ownsRow lo 3 1 r.val r.xs.length (ys.map (Value.int .i64))) (hg : w.grownBy w' r.val.ownBlock) : MatOwn w' lo hi a len cap (A ++ ⟨r.a, r.cap, ys⟩ :: B) := by
  have hv : Hd.val ⟨r.a, r.cap, ys⟩ = r.val := by simp [Hd.val, hl]
  have hvals : (A ++ ⟨r.a, r.cap, ys⟩ :: B).map Hd.val = (A ++ r :: B).map Hd.val := by simp [hv]
  have hap := h.apart
  rw [List.filterMap_append, List.filterMap_cons] at hap
  have hne : ∀ x ∈ A ++ B, ∀ k, x.val.ownBlock = some k → ¬ r.val.ownBlock = some k := by
    intro x hx k hk hrk
    rw [hrk] at hap
    simp only at hap
    rw [List.nodup_append] at hap
    obtain ⟨_, h2, h3⟩ := hap
    rw [List.nodup_cons] at h2
    rcases List.mem_append.1 hx with hx | hx
    · exact h3 k (List.mem_filterMap.2 ⟨x, hx, hk⟩) k (by simp) rfl
    · exact h2.1 (List.mem_filterMap.2 ⟨x, hx, hk⟩)
  have hrm : r ∈ A ++ r :: B := by simp
  have hout : ∀ k, (Value.slice a len cap).ownBlock = some k → ¬ r.val.ownBlock = some k := by
    intro k hk hrk
    have hrow := h.rows r hrm
    rcases hrow.2 with ⟨hv, _⟩ | ⟨g', cap', cur', hv, _, hgg, _⟩
    · rw [hv] at hrk; cases hrk
    · rw [hv] at hrk
      simp only [Value.ownBlock, Option.some.injEq] at hrk
      subst hrk
      rcases h.own.2 with ⟨hv2, _⟩ | ⟨g2, cap2, cur2, hv2, _, hgg2, _⟩
      · rw [hv2] at hk; cases hk
      · rw [hv2] at hk
        simp only [Value.ownBlock, Option.some.injEq] at hk
        subst hk
        rw [hgg] at hgg2
        simp at hgg2
  have hmem : ∀ x ∈ A ++ (⟨r.a, r.cap, ys⟩ : Hd) :: B, x ∈ A ++ B ∨ x = ⟨r.a, r.cap, ys⟩ := by
    intro x hx
    simp only [List.mem_append, List.mem_cons] at hx ⊢
    rcases hx with hx | hx | hx
    · exact .inl (.inl hx)
    · exact .inr hx
    · exact .inl (.inr hx)
  have hin : ∀ x ∈ A ++ B, x ∈ A ++ r :: B := by
    intro x hx
    simp only [List.mem_append, List.mem_cons] at hx ⊢
    rcases hx with hx | hx
    · exact .inl hx
    · exact .inr (.inr hx)
  have ht := turned_of_grown hg (S := fun k => r.val.ownBlock = some k) (fun k hk => hk)
  refine ⟨by rw [hvals]; exact own_turned h.own ht hout, h.ownHi, fun x hx => ?_, fun x hx k hk => ?_, ?_⟩
  · rcases hmem x hx with hx | rfl
    · exact own_turned (h.rows x (hin x hx)) ht (hne x hx)
    · rw [hv]
      simp only [hl]
      exact hr
  · rcases hmem x hx with hx | rfl
    · exact h.rowsHi x (hin x hx) k hk
    · rw [hv] at hk; exact h.rowsHi r hrm k hk
  · have : (A ++ (⟨r.a, r.cap, ys⟩ : Hd) :: B).filterMap (·.val.ownBlock) = (A ++ r :: B).filterMap (·.val.ownBlock) := by
      simp only [List.filterMap_append, List.filterMap_cons, hv]
    rw [this]
    exact h.apart

/-- The rows bear running numbers from k on. -/
def Marked (w : World) (lo hi : Nat) (a : Option Addr) (len cap : Nat) (rows : List Hd) (k : Int) (e : Ending) (w' : World) : Prop :=
  ∃ rows', e = .returned (.int .i64 (k + (total rows : Nat))) ∧ MatOwn w' lo hi a len cap rows' ∧ rows'.map Hd.xs = runs k (rows.map (·.xs.length)) ∧ Turned (fun b => lo ≤ b ∧ b < hi) w w'

end Go.Proofs.YtonlidgmfmgcmaaGreat

/-
  Slices of slices that a call makes by appending rows.
-/
namespace Go.Proofs.YtonlidgmfmgcmaaGreat
open Go.RowKit

/-- A slice of slices that the call has made; its blocks lie from lo on. -/
structure MatMine (w : World) (lo : Nat) (a : Option Addr) (len cap : Nat) (rs : List Hd) : Prop where
  own : w.ownsRow lo 26 1 (.slice a len cap) len (rs.map Hd.val)
  rows : ∀ r ∈ rs, w.ownsRow lo 3 1 r.val r.xs.length (r.xs.map (Value.int .i64))
theorem MatMine.at {w : World} {lo : Nat} {a : Option Addr} {len cap : Nat} {rows : List Hd} (h : MatMine w lo a len cap rows) : MatAt w a len cap rows :=
  ⟨⟨by have := h.own.1; simpa using this, rowAt_of_own h.own, fun r hr => (ints_of_own (h.rows r hr)).toIntsRd⟩, (own_cap h.own).1, (own_cap h.own).2, own_addr h.own, fun r hr => ints_of_own (h.rows r hr)⟩
theorem MatMine.kept {w w' : World} {lo : Nat} {a : Option Addr} {len cap : Nat} {rows : List Hd} (h : MatMine w lo a len cap rows) {S : Nat → Prop} (ht : Turned S w w') (hS : ∀ k, S k → k < lo) : MatMine w' lo a len cap rows :=
  ⟨own_turned h.own ht (fun k hk hs => by have := (h.own.lt k hk).1; have := hS k hs; omega), fun r hr => own_turned (h.rows r hr) ht (fun k hk hs => by have := ((h.rows r hr).lt k hk).1; have := hS k hs; omega)⟩
theorem MatMine.far {w w' : World} {lo : Nat} {a : Option Addr} {len cap : Nat} {rows : List Hd} (h : MatMine w lo a len cap rows) {S : Nat → Prop} (ht : Turned S w w') (hS : ∀ k, S k → k < lo ∨ w.heap.size ≤ k) : MatMine w' lo a len cap rows :=
  ⟨own_turned h.own ht (fun k hk hs => by have := h.own.lt k hk; have := hS k hs; omega), fun r hr => own_turned (h.rows r hr) ht (fun k hk hs => by have := (h.rows r hr).lt k hk; have := hS k hs; omega)⟩
theorem MatMine.alloc {w : World} {lo : Nat} {a : Option Addr} {len cap : Nat} {rows : List Hd} (h : MatMine w lo a len cap rows) (o : Obj) : MatMine (w.alloc o) lo a len cap rows :=
  h.kept (S := fun _ => False) (turned_of_grown (World.grownBy_alloc w o none) (by simp)) (by simp)
/-- Blocks of two element types are two blocks. -/
theorem own_ne {w : World} {lo lo' : Nat} {e e' : TypeId} {s s' : Nat} {v v' : Value} {n n' : Nat} {xs xs' : List Value} (h : w.ownsRow lo e s v n xs) (h' : w.ownsRow lo' e' s' v' n' xs') (hne : e ≠ e') : ∀ k, v.ownBlock = some k → ¬ v'.ownBlock = some k := by
  intro k hk hk'
  rcases h.2 with ⟨hv, _⟩ | ⟨g, c, cur, hv, _, hg, _⟩
  · rw [hv] at hk; cases hk
  · rcases h'.2 with ⟨hv2, _⟩ | ⟨g2, c2, cur2, hv2, _, hg2, _⟩
    · rw [hv2] at hk'; cases hk'
    · rw [hv] at hk
      rw [hv2] at hk'
      simp only [Value.ownBlock, Option.some.injEq] at hk hk'
      subst hk hk'
      rw [hg] at hg2
      simp only [Option.some.injEq, Obj.cells.injEq] at hg2
      exact hne hg2.2.1
theorem mine_push {w w' : World} {lo : Nat} {a a' : Option Addr} {n cap c' : Nat} {rows : List Hd} {r : Hd} (h : MatMine w lo a n cap rows) (hr : w.ownsRow lo 3 1 r.val r.xs.length (r.xs.map (Value.int .i64)))
    (hown : w'.ownsRow lo 26 1 (.slice a' (n + 1) c') (n + 1) (rows.map Hd.val ++ [r.val])) (hg : w.grownBy w' (Value.slice a n cap).ownBlock) : MatMine w' lo a' (n + 1) c' (rows ++ [r]) := by
  have ht := turned_of_grown hg (S := fun k => (Value.slice a n cap).ownBlock = some k) (fun k hk => hk)
  refine ⟨by simpa using hown, fun x hx => ?_⟩
  rcases List.mem_append.1 hx with hx | hx
  · exact own_turned (h.rows x hx) ht (own_ne (h.rows x hx) h.own (by decide))
  · simp at hx
    subst hx
    exact own_turned hr ht (own_ne hr h.own (by decide))
theorem mine_set {w : World} {lo g n cap : Nat} {rows : List Hd} {r : Hd} (h : MatMine w lo (some ⟨g, 0, none⟩) n cap rows) (hr : w.ownsRow lo 3 1 r.val r.xs.length (r.xs.map (Value.int .i64))) (i : Nat) :
    MatMine (w.setCell ⟨g, i, none⟩ r.val) lo (some ⟨g, 0, none⟩) n cap (rows.set i r) ∧ ∀ r' : Hd, w.ownsRow lo 3 1 r'.val r'.xs.length (r'.xs.map (Value.int .i64)) → (w.setCell ⟨g, i, none⟩ r.val).ownsRow lo 3 1 r'.val r'.xs.length (r'.xs.map (Value.int .i64)) := by
  have ht := turned_of_grown (h.own.stored i r.val).2 (S := fun k => (Value.slice (some ⟨g, 0, none⟩) n cap).ownBlock = some k) (fun k hk => hk)
  have hkeep : ∀ r' : Hd, w.ownsRow lo 3 1 r'.val r'.xs.length (r'.xs.map (Value.int .i64)) → (w.setCell ⟨g, i, none⟩ r.val).ownsRow lo 3 1 r'.val r'.xs.length (r'.xs.map (Value.int .i64)) :=
    fun r' hr' => own_turned hr' ht (own_ne hr' h.own (by decide))
  refine ⟨⟨by rw [List.map_set]; exact (h.own.stored i r.val).1, fun x hx => ?_⟩, hkeep⟩
  rcases List.mem_or_eq_of_mem_set hx with hx | rfl
  · exact hkeep x (h.rows x hx)
  · exact hkeep x hr
/-- The place of a row of the call's own. -/
theorem mine_place {w : World} {lo : Nat} {a : Option Addr} {n cap : Nat} {rows : List Hd} (h : MatMine w lo a n cap rows) {i : Nat} (hi : i < n) :
    ∃ g ai ci xs, a = some ⟨g, 0, none⟩ ∧ rows[i]? = some ⟨ai, ci, xs⟩ ∧ w.cell? ⟨g, i, none⟩ = some (.slice ai xs.length ci) ∧ w.frozen? ⟨g, i, none⟩ = false ∧ lo ≤ g ∧ w.ownsRow lo 3 1 (.slice ai xs.length ci) xs.length (xs.map (Value.int .i64)) := by
  have hlen : rows.length = n := by have := h.own.1; simpa using this
  rcases h.own.2 with ⟨hv, h0⟩ | ⟨g, cap', cur, hv, hb, _⟩
  · omega
  · simp only [Value.slice.injEq] at hv
    obtain ⟨rfl, _, rfl⟩ := hv
    have hx : rows[i]? = some (rows[i]'(by omega)) := List.getElem?_eq_getElem _
    refine ⟨g, _, _, _, rfl, hx, ?_, h.own.frozenAt i, hb, h.rows _ (List.getElem_mem _)⟩
    rw [h.own.cellAt i (by omega), List.getElem?_map, hx]
    rfl
theorem mine_empty (w : World) (lo : Nat) (hb : lo ≤ w.heap.size) : MatMine (w.alloc (.cells #[] 26)) lo (some ⟨w.heap.size, 0, none⟩) 0 0 [] :=
  ⟨own_empty w lo 26 1 hb, by simp⟩

section
variable {w : World} {ops : Array Oper} {rest : List Oper} {o : Oper} {a : Act} {Q : Exit → Act → World → Prop}
/-- append of one row onto rows of the call's own. -/
theorem app_row (hgd : o.guard = none) (s x : Operand) (ho : o.op = .call { callee := .builtin .append, args := #[s, x], argTypes := #[42, 42] })
    (base : Nat) (v : Value) (n : Nat) (xs : List Value) (hs : a.eval s = v) (hown : w.ownsRow base 26 1 v n xs)
    (ao : Option Addr) (c : Nat) (y : Value) (hx : a.eval x = .slice ao 1 c) (hrow : RowAt w ao [y]) (hone : y.oneCell' = true)
    (hb : n + 1 ≤ 1099511627776) (hbase : base ≤ w.heap.size)
    (h : ∀ a' c' w', w'.ownsRow base 26 1 (.slice a' (n + 1) c') (n + 1) (xs ++ [y]) → w.grownBy w' v.ownBlock →
      ((Value.slice a' (n + 1) c').ownBlock = v.ownBlock ∨ (Value.slice a' (n + 1) c').ownBlock = some w.heap.size) → wpList Tryz.prog ops Q rest (a.put o.dst (.slice a' (n + 1) c')) w') : wpList Tryz.prog ops Q (o :: rest) a w := by
  obtain ⟨i0, hi, hz0, hz1, hz2⟩ := info_parts info_ints
  exact wpList_append_any hgd s x 42 ho base 26 i0 (.slice none 0 0) 1 24 und_mat hi hz0 hz1 hz2 rfl (by decide) v n xs hs hown ao 1 c _ hx (by simp) hrow (by
    rintro rfl
    rcases hrow with h | ⟨_, _, h, _⟩
    · cases h
    · cases h) (by simpa using hone) (by unfold maxLen; omega) (by omega) hbase h
end

/-- A slice literal of ints is owned. -/
theorem own_lit (w : World) (lo : Nat) (xs : List Int) (hb : lo ≤ w.heap.size) (hm : xs.length ≤ maxLen) :
    (w.alloc (.cells (xs.map (Value.int .i64)).toArray 3)).ownsRow lo 3 1 (.slice (some ⟨w.heap.size, 0, none⟩) xs.length xs.length) xs.length (xs.map (Value.int .i64)) := by
  refine ⟨by simp, .inr ⟨w.heap.size, xs.length, _, rfl, hb, heap_alloc_new w _, Nat.le_refl _, hm, by simp, ?_⟩⟩
  rw [Nat.mul_one, List.take_of_length_le (by simp)]

theorem lit_rd (w : World) (xs : List Int) (hm : xs.length ≤ maxLen) : IntsRd (w.alloc (.cells (xs.map (Value.int .i64)).toArray 3)) (some ⟨w.heap.size, 0, none⟩) xs.length xs :=
  (ints_of_own (own_lit w 0 xs (Nat.zero_le _) hm)).toIntsRd

/-- append of one row onto rows of the call's own, in a region that draws. -/
theorem step_app_row {w : World} {ops : Array Oper} {o : Oper} {a : Act} {K : Act → World → Prop} {Q : Exit → Act → World → Prop} {E : Prop} (hgd : o.guard = none) (s x : Operand)
    (ho : o.op = .call { callee := .builtin .append, args := #[s, x], argTypes := #[42, 42] })
    (base : Nat) (v : Value) (n : Nat) (xs : List Value) (hs : a.eval s = v) (hown : w.ownsRow base 26 1 v n xs)
    (ao : Option Addr) (c : Nat) (y : Value) (hx : a.eval x = .slice ao 1 c) (hrow : RowAt w ao [y]) (hone : y.oneCell' = true)
    (hb : n + 1 ≤ 1099511627776) (hbase : base ≤ w.heap.size)
    (h : ∀ a' c' w', w'.ownsRow base 26 1 (.slice a' (n + 1) c') (n + 1) (xs ++ [y]) → w.grownBy w' v.ownBlock →
      ((Value.slice a' (n + 1) c').ownBlock = v.ownBlock ∨ (Value.slice a' (n + 1) c').ownBlock = some w.heap.size) → K (a.put o.dst (.slice a' (n + 1) c')) w') :
    if Region.wanted o (yielded ops a.tmps) = true then Oper.wp Tryz.prog o a w K Q else E := by
  obtain ⟨i0, hi, hz0, hz1, hz2⟩ := info_parts info_ints
  exact step_append_any hgd s x 42 ho base 26 i0 (.slice none 0 0) 1 24 und_mat hi hz0 hz1 hz2 rfl (by decide) v n xs hs hown ao 1 c _ hx (by simp) hrow (by
    rintro rfl
    rcases hrow with h | ⟨_, _, h, _⟩
    · cases h
    · cases h) (by simpa using hone) (by unfold maxLen; omega) (by omega) hbase h

end Go.Proofs.YtonlidgmfmgcmaaGreat

/-
  A slice of slices of ints that a call gathers, one row of two numbers at a time.
-/
namespace Go.Proofs.YtonlidgmfmgcmaaGreat
open Go.RowKit

/-- A pair of numbers in a block, and its slice in another one. -/
theorem pair_row (w : World) (x y : Int) : RowAt ((w.alloc (.cells #[.int .i64 x, .int .i64 y] 3)).alloc (.cells #[.slice (some ⟨w.heap.size, 0, none⟩) 2 2] 26)) (some ⟨w.heap.size + 1, 0, none⟩) [.slice (some ⟨w.heap.size, 0, none⟩) 2 2] := by
  have h := rowAt_one (w.alloc (.cells #[.int .i64 x, .int .i64 y] 3)) (.slice (some ⟨w.heap.size, 0, none⟩) 2 2) 26
  rwa [World.size_alloc] at h

/-- What has been gathered: the rows, no two in one place; nothing that was there has changed. -/
structure GathM (w : World) (xss : List (List Int)) (a : Option Addr) (n c : Nat) (wr : World) : Prop where
  len : xss.length = n
  below : Below w.heap.size w wr
  mat : ∃ rows, MatMine wr w.heap.size a n c rows ∧ rows.map Hd.xs = xss ∧ (rows.filterMap (·.val.ownBlock)).Nodup
theorem GathM.later {w wr w' : World} {xss : List (List Int)} {a : Option Addr} {n c : Nat} (h : GathM w xss a n c wr) (hb : Below wr.heap.size wr w') : GathM w xss a n c w' := by
  obtain ⟨rows, hm, hx, hn⟩ := h.mat
  exact ⟨h.len, h.below.trans (hb.mono h.below.size), rows, hm.far (S := fun k => wr.heap.size ≤ k) (turned_of_below hb (fun _ hk _ => hk)) (fun _ hk => .inr hk), hx, hn⟩
theorem GathM.nil {w wr : World} (hb : Below w.heap.size w wr) : GathM w [] none 0 0 wr := ⟨rfl, hb, [], ⟨World.ownsRow_nil _ _ _ _, by simp⟩, rfl, by simp⟩
theorem GathM.empty {w wr : World} (hb : Below w.heap.size w wr) : GathM w [] (some ⟨wr.heap.size, 0, none⟩) 0 0 (wr.alloc (.cells #[] 26)) :=
  ⟨rfl, hb.alloc hb.size _, [], mine_empty wr w.heap.size hb.size, rfl, by simp⟩
theorem GathM.push {w wr w' : World} {a a' : Option Addr} {n c c' : Nat} {rows : List Hd} {x y : Int} {o : Obj} (hb : Below w.heap.size w wr) (hm : MatMine wr w.heap.size a n c rows) (hn : (rows.filterMap (·.val.ownBlock)).Nodup)
    (hown : w'.ownsRow w.heap.size 26 1 (.slice a' (n + 1) c') (n + 1) (rows.map Hd.val ++ [.slice (some ⟨wr.heap.size, 0, none⟩) 2 2])) (hg : ((wr.alloc (.cells #[.int .i64 x, .int .i64 y] 3)).alloc o).grownBy w' (Value.slice a n c).ownBlock) :
    GathM w (rows.map Hd.xs ++ [[x, y]]) a' (n + 1) c' w' := by
  have hba : Below wr.heap.size wr ((wr.alloc (.cells #[.int .i64 x, .int .i64 y] 3)).alloc o) := ((Below.refl _ _).alloc (Nat.le_refl _) _).alloc (by simp) _
  have hr : ((wr.alloc (.cells #[.int .i64 x, .int .i64 y] 3)).alloc o).ownsRow w.heap.size 3 1 (Hd.val ⟨some ⟨wr.heap.size, 0, none⟩, 2, [x, y]⟩) 2 ([x, y].map (Value.int .i64)) := (own_lit wr w.heap.size [x, y] hb.size (by simp [maxLen])).alloc o
  have hm2 := mine_push (r := ⟨some ⟨wr.heap.size, 0, none⟩, 2, [x, y]⟩) ((hm.alloc _).alloc o) hr hown hg
  have hl : rows.length = n := by have := hm.own.1; simpa using this
  refine ⟨by simp [hl], (hb.trans (hba.mono hb.size)).grown hg (Nat.le_trans hb.size hba.size) (fun k hk => (hm.own.lt k hk).1), _, hm2, by simp, ?_⟩
  rw [List.filterMap_append, List.nodup_append]
  refine ⟨hn, by simp [Hd.val, Value.ownBlock], ?_⟩
  intro p hp q hq
  obtain ⟨z, hz, hzp⟩ := List.mem_filterMap.1 hp
  have h1 := ((hm.rows z hz).lt p hzp).2
  simp [Hd.val, Value.ownBlock] at hq
  omega
/-- A block of another type stands. -/
theorem GathM.kept {wr w' : World} {lo : Nat} {a : Option Addr} {n c : Nat} {rows : List Hd} {o1 o2 : Obj} (hm : MatMine wr lo a n c rows) (hg : ((wr.alloc o1).alloc o2).grownBy w' (Value.slice a n c).ownBlock) {cb : Nat} {C : Array Value} {t : TypeId} (hcb : wr.heap[cb]? = some (.cells C t (0, 0))) (ht : t ≠ 26) : w'.heap[cb]? = some (.cells C t (0, 0)) := by
  have hl : cb < wr.heap.size := (Array.getElem?_eq_some_iff.1 hcb).1
  rw [hg.block cb (by simp; omega) (fun e => ?_), heap_alloc_old _ _ (by simp; omega), heap_alloc_old _ _ hl]
  · exact hcb
  · rcases hm.own.2 with ⟨hv, _⟩ | ⟨g, cap, cur, hv, _, hgg, _⟩
    · rw [hv] at e; cases e
    · rw [hv] at e
      simp only [Value.ownBlock, Option.some.injEq] at e
      subst e
      rw [hcb] at hgg
      simp only [Option.some.injEq, Obj.cells.injEq] at hgg
      exact ht hgg.2.1
theorem GathM.ret {w wr : World} {xss : List (List Int)} {a : Option Addr} {n c : Nat} (h : GathM w xss a n c wr) : RetMat w xss n (.returned (.slice a n c)) wr := by
  obtain ⟨rows, hm, hx, hn⟩ := h.mat
  exact ⟨a, c, rows, rfl, ⟨hm.own, fun k hk => (hm.own.lt k hk).2, hm.rows, fun r hr k hk => ((hm.rows r hr).lt k hk).2, hn⟩, hx, h.below⟩
theorem ret_mat {w w1 w2 : World} {xss : List (List Int)} {a : Option Addr} {n c : Nat} {rows : List Hd} (hm : MatOwn w2 w1.heap.size w2.heap.size a n c rows) (hx : rows.map Hd.xs = xss) (hb2 : Below w1.heap.size w1 w2) (hb1 : Below w.heap.size w w1) : RetMat w xss n (.returned (.slice a n c)) w2 :=
  ⟨a, c, rows, rfl, ⟨own_lower hm.own (fun k hk => Nat.le_trans hb1.size (hm.own.lt k hk).1), hm.ownHi, fun r hr => own_lower (hm.rows r hr) (fun k hk => Nat.le_trans hb1.size ((hm.rows r hr).lt k hk).1), hm.rowsHi, hm.apart⟩, hx, hb1.trans (hb2.mono hb1.size)⟩

end Go.Proofs.YtonlidgmfmgcmaaGreat

/-
  Answers that are slices of pairs: what the laws' helpers say of them.
-/
namespace Go.Proofs.YtonlidgmfmgcmaaGreat
open Go.RowKit

theorem total_two {rows : List Hd} {R : List (List Int)} (h : rows.map Hd.xs = R) (h2 : ∀ x ∈ R, x.length = 2) : total rows = 2 * R.length := by
  subst h
  induction rows with
  | nil => rfl
  | cons r rows ih =>
    have h1 := h2 r.xs (by simp)
    have h3 := ih (fun x hx => h2 x (by simp at hx ⊢; exact .inr hx))
    simp only [total, List.map_cons, List.sum_cons, List.length_cons] at h3 ⊢
    omega
theorem lens_two {rows : List Hd} {R : List (List Int)} (h : rows.map Hd.xs = R) (h2 : ∀ x ∈ R, x.length = 2) : ∀ r ∈ rows, r.xs.length ≤ 1099511627776 := by
  intro r hr
  have := h2 r.xs (by rw [← h]; exact List.mem_map.2 ⟨r, hr, rfl⟩)
  omega
theorem runs_lens {rows rows' : List Hd} {k : Int} (h : rows'.map Hd.xs = runs k (rows.map (·.xs.length))) : rows'.map (·.xs.length) = rows.map (·.xs.length) := by
  have e : ∀ rs : List Hd, rs.map (·.xs.length) = (rs.map Hd.xs).map List.length := by intro rs; simp [Function.comp_def]
  have e2 : ∀ (ns : List Nat) (k : Int), (runs k ns).map List.length = ns := by
    intro ns
    induction ns with
    | nil => intro k; rfl
    | cons n ns ih => intro k; simp [runs, run_length, ih]
  rw [e rows', h, e2]
end Go.Proofs.YtonlidgmfmgcmaaGreat
