
/-
  ReadMins, the reference's: a text is cut at its blanks; the number of a text; the word and the fields of an op.
-/
import Derived.Test.YtdkafajmhgfkoaaDoorRm
import Derived.Test.YtdkafajmhgfkoaaDoorBase
namespace Go.Proofs.YtdkafajmhgfkoaaDoor
open Go.RowKit

theorem info_str : (Tryd.prog.info? 9).map (fun i => (i.zero, i.size, i.bytes)) = some (some (.string ByteArray.empty), 1, 16) := by kernel_rfl
theorem und_strs : Tryd.prog.underlying 56 = some (.slice 9) := by kernel_rfl
/-- append of one text. -/
theorem app_str {w : World} {ops : Array Oper} {rest : List Oper} {o : Oper} {a : Act} {Q : Exit → Act → World → Prop} (hgd : o.guard = none) (s x : Operand) (ho : o.op = .call { callee := .builtin .append, args := #[s, x], argTypes := #[56, 56] })
    (base : Nat) (v : Value) (n : Nat) (xs : List Value) (hs : a.eval s = v) (hown : w.ownsRow base 9 1 v n xs)
    (ao : Option Addr) (c : Nat) (ys : List Value) (hx : a.eval x = .slice ao 1 c) (hrow : RowAt w ao ys) (hl : ys.length = 1) (hone : ∀ u ∈ ys, u.oneCell' = true)
    (hb : n + 1 ≤ 1099511627776) (hbase : base ≤ w.heap.size)
    (h : ∀ a' c' w', w'.ownsRow base 9 1 (.slice a' (n + 1) c') (n + 1) (xs ++ ys) → w.grownBy w' v.ownBlock →
      ((Value.slice a' (n + 1) c').ownBlock = v.ownBlock ∨ (Value.slice a' (n + 1) c').ownBlock = some w.heap.size) → wpList Tryd.prog ops Q rest (a.put o.dst (.slice a' (n + 1) c')) w') : wpList Tryd.prog ops Q (o :: rest) a w := by
  obtain ⟨i0, hi, hz0, hz1, hz2⟩ := info_parts info_str
  exact wpList_append_any hgd s x 56 ho base 9 i0 (.string ByteArray.empty) 1 16 und_strs hi hz0 hz1 hz2 rfl (by decide) v n xs hs hown ao 1 c _ hx (by simp [hl]) hrow (by
    rintro rfl
    rcases hrow with h | ⟨_, _, h, _⟩
    · rw [h] at hl; simp at hl
    · cases h) hone (by unfold maxLen; omega) (by omega) hbase h

/-- A slice of texts reads as a list. -/
structure StrsRd (w : World) (a : Option Addr) (n : Nat) (xs : List ByteArray) : Prop where
  length : xs.length = n
  row : RowAt w a (xs.map Value.string)
theorem StrsRd.later {w w' : World} {a : Option Addr} {n : Nat} {xs : List ByteArray} (h : StrsRd w a n xs) (hb : Below w.heap.size w w') : StrsRd w' a n xs := ⟨h.length, h.row.later hb⟩
theorem StrsRd.place {w : World} {a : Option Addr} {n : Nat} {xs : List ByteArray} (h : StrsRd w a n xs) {i : Nat} (hi : i < n) :
    ∃ b off, a = some ⟨b, off, none⟩ ∧ w.cell? ⟨b, off + i, none⟩ = some (.string (xs.getD i ⟨#[]⟩)) := by
  have hl := h.length
  rcases h.row with h0 | ⟨b, off, rfl, h1⟩
  · have h2 := congrArg List.length h0
    rw [List.length_map] at h2
    simp only [List.length_nil] at h2
    omega
  · refine ⟨b, off, rfl, h1 i _ ?_⟩
    rw [List.getElem?_map, List.getD_eq_getElem?_getD, List.getElem?_eq_getElem (by omega)]
    rfl

/-- What a text's bytes from a place to another are. -/
def segL (l : List UInt8) (f i : Nat) : List UInt8 := (l.drop f).take (i - f)
theorem seg_data (s : ByteArray) (f i : Nat) : (s.extract f i).data.toList = segL s.data.toList f i := by simp [segL]
theorem seg_same (l : List UInt8) (i : Nat) : segL l i i = [] := by simp [segL]
theorem seg_next {l : List UInt8} {f i : Nat} {c : UInt8} (hf : f ≤ i) (hc : l[i]? = some c) : segL l f (i + 1) = segL l f i ++ [c] := by
  rw [segL, segL, show i + 1 - f = (i - f) + 1 by omega, List.take_add_one, List.getElem?_drop, show f + (i - f) = i by omega, hc]
  rfl
/-- What is still to be cut. -/
def Cutting (s : ByteArray) (outs : List ByteArray) (f i : Nat) : Prop := f ≤ i ∧ i ≤ s.size ∧ outs.length ≤ i ∧ outs.map (·.data.toList) ++ glue (segL s.data.toList f i) (cutL (s.data.toList.drop i)) = cutL s.data.toList
theorem len_data (s : ByteArray) : s.data.toList.length = s.size := by rw [Array.length_toList]; rfl
theorem chr_data {s : ByteArray} {i : Nat} (hi : i < s.size) : ∃ b, s.data.toList[i]? = some b ∧ chr s i = (b.toNat : Int) := by
  have hl : i < s.data.toList.length := by rw [len_data]; exact hi
  refine ⟨s.data.toList[i], List.getElem?_eq_getElem hl, ?_⟩
  unfold chr
  rw [getElem?_pos s i hi]
  rfl
theorem cutting_zero (s : ByteArray) : Cutting s [] 0 0 := by
  refine ⟨Nat.le_refl _, Nat.zero_le _, Nat.le_refl _, ?_⟩
  rw [seg_same, List.drop_zero, glue_nil (cutL_ne _)]
  rfl
theorem cutting_other {s : ByteArray} {outs : List ByteArray} {f i : Nat} (h : Cutting s outs f i) (hi : i < s.size) (hc : chr s i ≠ 32) : Cutting s outs f (i + 1) := by
  obtain ⟨h1, h2, h3, h4⟩ := h
  obtain ⟨b, hb, hcb⟩ := chr_data hi
  refine ⟨by omega, hi, by omega, ?_⟩
  have hd : s.data.toList.drop i = b :: s.data.toList.drop (i + 1) := (List.drop_eq_getElem_cons (by rw [len_data]; exact hi)).trans (by rw [(List.getElem?_eq_some_iff.1 hb).2])
  have hb32 : b ≠ 32 := by
    rintro rfl
    apply hc
    rw [hcb]
    rfl
  rw [hd, cutL_other hb32, glue_glue, ← seg_next h1 hb] at h4
  exact h4
theorem cutting_blank {s : ByteArray} {outs : List ByteArray} {f i : Nat} (h : Cutting s outs f i) (hi : i < s.size) (hc : chr s i = 32) : Cutting s (outs ++ [s.extract f i]) (i + 1) (i + 1) := by
  obtain ⟨h1, h2, h3, h4⟩ := h
  obtain ⟨b, hb, hcb⟩ := chr_data hi
  refine ⟨by omega, hi, by simp; omega, ?_⟩
  have hd : s.data.toList.drop i = b :: s.data.toList.drop (i + 1) := (List.drop_eq_getElem_cons (by rw [len_data]; exact hi)).trans (by rw [(List.getElem?_eq_some_iff.1 hb).2])
  have hb32 : b = 32 := by
    have : b.toNat = 32 := by omega
    exact UInt8.toNat_inj.1 this
  subst hb32
  rw [hd, cutL_blank, glue, List.append_nil] at h4
  rw [seg_same, glue_nil (cutL_ne _), List.map_append, List.append_assoc]
  rw [← h4]
  simp [segL]
theorem cutting_end {s : ByteArray} {outs : List ByteArray} {f : Nat} (h : Cutting s outs f s.size) : outs ++ [s.extract f s.size] = cutS s := by
  obtain ⟨h1, h2, h3, h4⟩ := h
  refine of_lists ?_
  rw [List.drop_of_length_le (by rw [len_data]; omega)] at h4
  rw [← h4, List.map_append]
  simp [cutL, glue, segL]

set_option maxRecDepth 100000 in
set_option maxHeartbeats 2000000 in
theorem l22Cut_any (s : ByteArray) (w : World) (hs : s.size ≤ 40) :
    Calls Tryd.prog 31 #[.string s] w fun e w' => ∃ a c, e = .returned (.slice a (cutS s).length c) ∧ StrsRd w' a (cutS s).length (cutS s) ∧ Below w.heap.size w w' := by
  have h0 := own_empty w w.heap.size 9 1 (Nat.le_refl _)
  have hb0 : Below w.heap.size w (w.alloc (.cells #[] 9)) := (Below.refl _ _).alloc (Nat.le_refl _) _
  have H0 := Lib.hid (And.intro h0 hb0)
  clear h0 hb0
  go_enter Tryd.func31, Tryd.ntmps31
  go_wp2_with fail
  go_loopg [3, 4, 5] (s.size + 1) (fun F o f i wr => (∃ (k g n c : Nat) (ao : Option Addr) (outs : List ByteArray), k + F = s.size + 1 ∧ f = .int .i64 g ∧ i = .int .i64 k ∧ o = .slice ao n c ∧ outs.length = n ∧ Hid (((k ≤ s.size ∧ Cutting s outs g k) ∨ (k = s.size + 1 ∧ outs = cutS s)) ∧ wr.ownsRow w.heap.size 9 1 (.slice ao n c) n (outs.map Value.string) ∧ Below w.heap.size w wr)))
  case atStart => exact ⟨0, 0, 0, 0, _, [], by omega, rfl, rfl, rfl, rfl, Lib.hid ⟨.inl ⟨Nat.zero_le _, cutting_zero s⟩, H0.out.1, H0.out.2⟩⟩
  case round =>
    obtain ⟨k, g, n, c, ao, outs, hk, rfl, rfl, rfl, hn, HR⟩ := hrel
    clear H0
    obtain ⟨hle, hcut⟩ | ⟨rfl, hout⟩ := HR.out.1
    · have hki : (k : Int) ≤ (s.size : Int) := by omega
      have HC := Lib.hid hcut
      have hgk := hcut.1
      have hnk := hcut.2.2.1
      clear hcut
      by_cases hend : k = s.size
      · subst hend
        have hgi : (g : Int) ≤ (s.size : Int) := by omega
        have ho := HR.out.2.1.alloc (.cells #[.string (s.extract g s.size)] 9)
        have hsz := HR.out.2.2.size
        have HB := Lib.hid (HR.out.2.2.trans (((Below.refl wr.heap.size wr).alloc (Nat.le_refl _) (.cells #[.string (s.extract g s.size)] 9)).mono hsz))
        go_wp2_with (at_builtin; refine app_str rfl (.tmp 23) (.tmp 28) rfl w.heap.size _ n _ rfl ho _ 1 [.string (s.extract g s.size)] rfl (rowAt_one wr (.string (s.extract g s.size)) 9) rfl (by intro u hu; simp at hu; subst hu; rfl) (by omega) (by rw [World.size_alloc]; omega) ?_; intro a5 c5 w5 hown5 hg5 hlies5; clear ho)
        have HE := Lib.hid (And.intro (show w5.ownsRow w.heap.size 9 1 (.slice a5 (n + 1) c5) (n + 1) ((outs ++ [s.extract g s.size]).map Value.string) by rw [List.map_append]; exact hown5) (HB.out.grown hg5 (by rw [World.size_alloc]; omega) (fun j hj => (HR.out.2.1.lt j hj).1)))
        clear hown5 hg5 hlies5
        go_wp2
        go_roundg (gk - 1)
        case measure => omega
        case rel => exact ⟨s.size + 1, s.size + 1, n + 1, c5, a5, outs ++ [s.extract g s.size], by omega, by go_num, by go_num, rfl, by simp [hn], Lib.hid ⟨.inr ⟨rfl, cutting_end HC.out⟩, HE.out.1, HE.out.2⟩⟩
      · have hlt : k < s.size := by omega
        have hjx : ∀ W, (Instr.index 9 (.string s) (.int .i64 (k : Int))).run Tryd.prog W = .ok (.int .u8 (chr s k)) W := fun W => idx_str s k hlt W
        have hke : ((k : Int) == (s.size : Int)) = false := by simp; omega
        cases hc : (chr s k == 32) with
        | true =>
          have HK := Lib.hid (by simpa using hc : chr s k = 32)
          have hgi : (g : Int) ≤ (k : Int) := by omega
          have ho := HR.out.2.1.alloc (.cells #[.string (s.extract g k)] 9)
          have hsz := HR.out.2.2.size
          have HB := Lib.hid (HR.out.2.2.trans (((Below.refl wr.heap.size wr).alloc (Nat.le_refl _) (.cells #[.string (s.extract g k)] 9)).mono hsz))
          go_wp2_with (at_builtin; refine app_str rfl (.tmp 23) (.tmp 28) rfl w.heap.size _ n _ rfl ho _ 1 [.string (s.extract g k)] rfl (rowAt_one wr (.string (s.extract g k)) 9) rfl (by intro u hu; simp at hu; subst hu; rfl) (by omega) (by rw [World.size_alloc]; omega) ?_; intro a5 c5 w5 hown5 hg5 hlies5; clear ho)
          have HE := Lib.hid (And.intro (show w5.ownsRow w.heap.size 9 1 (.slice a5 (n + 1) c5) (n + 1) ((outs ++ [s.extract g k]).map Value.string) by rw [List.map_append]; exact hown5) (HB.out.grown hg5 (by rw [World.size_alloc]; omega) (fun j hj => (HR.out.2.1.lt j hj).1)))
          clear hown5 hg5 hlies5
          go_wp2
          go_roundg (gk - 1)
          case measure => omega
          case rel => exact ⟨k + 1, k + 1, n + 1, c5, a5, outs ++ [s.extract g k], by omega, by go_num, by go_num, rfl, by simp [hn], Lib.hid ⟨.inl ⟨hlt, cutting_blank HC.out hlt HK.out⟩, HE.out.1, HE.out.2⟩⟩
        | false =>
          have HK := Lib.hid (by simpa using hc : chr s k ≠ 32)
          go_wp2
          go_roundg (gk - 1)
          case measure => omega
          case rel => exact ⟨k + 1, g, n, c, ao, outs, by omega, rfl, by go_num, rfl, hn, Lib.hid ⟨.inl ⟨hlt, cutting_other HC.out hlt HK.out⟩, HR.out.2.1, HR.out.2.2⟩⟩
    · have hki : ¬ ((s.size + 1 : Nat) : Int) ≤ (s.size : Int) := by omega
      have HE := Lib.hid hout
      subst hn
      clear hout
      go_wp2
      refine bodyPost_ret (results_tmp rfl _ _ _) rfl ?_
      have he := HE.out
      subst he
      exact ⟨ao, ⟨c, rfl⟩, ⟨rfl, rowAt_of_own HR.out.2.1⟩, HR.out.2.2⟩

end Go.Proofs.YtdkafajmhgfkoaaDoor
