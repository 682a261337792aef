/-
  Bytes that stand at a place of a text: numbers and texts that are taken there are those that were put. No program in sight. No condition.
-/
import Derived.Test.YtpkkjoiglemlgaaGreatDoorSeptetQ
namespace Go.Proofs.YtpkkjoiglemlgaaGreatDoor
set_option linter.unusedVariables false

/-- The bytes l stand in s from a on. -/
def Seg (s : ByteArray) (a : Nat) (l : List UInt8) : Prop := a ≤ s.size ∧ l <+: s.data.toList.drop a
theorem size_list (s : ByteArray) : s.data.toList.length = s.size := by simp
theorem Seg.le {s : ByteArray} {a : Nat} {l : List UInt8} (h : Seg s a l) : a + l.length ≤ s.size := by
  have h1 := h.2.length_le
  have h2 := h.1
  rw [List.length_drop, size_list] at h1
  omega
theorem Seg.nil {s : ByteArray} {a : Nat} (h : a ≤ s.size) : Seg s a [] := ⟨h, List.nil_prefix⟩
theorem Seg.append {s : ByteArray} {a : Nat} {l m : List UInt8} (h : Seg s a l) (k : Seg s (a + l.length) m) : Seg s a (l ++ m) := by
  refine ⟨h.1, ?_⟩
  obtain ⟨t, ht⟩ := h.2
  obtain ⟨u, hu⟩ := k.2
  have e : s.data.toList.drop (a + l.length) = t := by rw [← List.drop_drop, ← ht, List.drop_left]
  rw [e] at hu
  exact ⟨u, by rw [List.append_assoc, hu, ht]⟩
theorem Seg.left {s : ByteArray} {a : Nat} {l m : List UInt8} (h : Seg s a (l ++ m)) : Seg s a l := ⟨h.1, (List.prefix_append _ _).trans h.2⟩
theorem Seg.right {s : ByteArray} {a : Nat} {l m : List UInt8} (h : Seg s a (l ++ m)) : Seg s (a + l.length) m := by
  have h1 := h.le
  rw [List.length_append] at h1
  refine ⟨by omega, ?_⟩
  obtain ⟨t, ht⟩ := h.2
  refine ⟨t, ?_⟩
  rw [← List.drop_drop, ← ht, List.append_assoc, List.drop_left]
theorem Seg.split {s : ByteArray} {a : Nat} {l m : List UInt8} (h : Seg s a (l ++ m)) : Seg s a l ∧ Seg s (a + l.length) m := ⟨h.left, h.right⟩
theorem Seg.of {x y : ByteArray} {l : List UInt8} : Seg (x ++ bs l ++ y) x.size l := by
  refine ⟨by simp; omega, y.data.toList, ?_⟩
  simp only [bs, ByteArray.data_append, Array.toList_append, List.append_assoc]
  rw [← size_list x, List.drop_left]
theorem Seg.all {s : ByteArray} {l : List UInt8} (h : s = bs l) : Seg s 0 l := by
  subst h
  exact ⟨by simp, by simp [bs]⟩
theorem Seg.whole {s : ByteArray} {l : List UInt8} (h : Seg s 0 l) (hl : l.length = s.size) : s = bs l := by
  obtain ⟨t, ht⟩ := h.2
  rw [List.drop_zero] at ht
  have : t = [] := by
    have h1 := congrArg List.length ht
    rw [List.length_append, size_list] at h1
    exact List.eq_nil_of_length_eq_zero (by omega)
  subst this
  apply ba_ext
  rw [list_bs, ← ht, List.append_nil]
/-- s, parted around the bytes. -/
theorem Seg.parts {s : ByteArray} {a : Nat} {l : List UInt8} (h : Seg s a l) : s = s.extract 0 a ++ bs l ++ s.extract (a + l.length) s.size ∧ (s.extract 0 a).size = a := by
  have hle := h.le
  refine ⟨?_, by rw [ByteArray.size_extract]; omega⟩
  obtain ⟨t, ht⟩ := h.2
  apply ba_ext
  simp only [bs, ByteArray.data_extract, ByteArray.data_append, Array.toList_extract, Array.toList_append, List.extract_eq_take_drop, Nat.sub_zero, List.drop_zero]
  have h2 : s.data.toList.drop (a + l.length) = t := by rw [← List.drop_drop, ← ht, List.drop_left]
  rw [h2]
  have h3 : t.length = s.size - (a + l.length) := by rw [← h2, List.length_drop, size_list]
  rw [List.take_of_length_le (l := t) (by omega), List.append_assoc, ht, List.take_append_drop]
theorem Seg.extract {s : ByteArray} {a b : Nat} {l : List UInt8} (h : bs l = s.extract a b) (hab : a ≤ b) (hb : b ≤ s.size) : Seg s a l ∧ b = a + l.length := by
  have h0 := congrArg (fun x => x.data.toList) h
  simp only [list_bs, ByteArray.data_extract, Array.toList_extract, List.extract_eq_take_drop] at h0
  have hl : l.length = b - a := by rw [h0, List.length_take, List.length_drop, size_list]; omega
  exact ⟨⟨by omega, by rw [h0]; exact List.take_prefix _ _⟩, by omega⟩
theorem Seg.eq_extract {s : ByteArray} {a : Nat} {l : List UInt8} (h : Seg s a l) : s.extract a (a + l.length) = bs l := by
  apply ba_ext
  obtain ⟨t, ht⟩ := h.2
  simp only [list_bs, ByteArray.data_extract, Array.toList_extract, List.extract_eq_take_drop]
  rw [← ht, show a + l.length - a = l.length by omega, List.take_left]
/-! ### numbers -/
theorem tk_seg {s : ByteArray} {a n : Nat} (hn : n < 18446744073709551616) (h : Seg s a (sput n)) : tk s a = (n, ((a + (sput n).length : Nat) : Int), 0) := by
  obtain ⟨e, hs⟩ := h.parts
  have h1 := tk_back (s.extract 0 a) (s.extract (a + (sput n).length) s.size) n hn
  rw [← e, hs] at h1
  rw [h1]
  push_cast
  rfl
theorem seg_tk {s : ByteArray} {p : Int} (h : (tk s p).2.2 = 0) : ∃ a : Nat, p = a ∧ Seg s a (sput (tk s p).1) ∧ (tk s p).2.1 = ((a + (sput (tk s p).1).length : Nat) : Int) ∧ (tk s p).1 < 18446744073709551616 := by
  obtain ⟨a, b, e1, e2, h1, h2, h3, h4⟩ := tk_took h
  obtain ⟨h5, h6⟩ := Seg.extract h3 (by omega) h2
  exact ⟨a, e1, h5, by rw [e2, ← h6], h4⟩
theorem sput_pos (n : Nat) : 0 < (sput n).length := by
  by_cases h : n < 128
  · rw [sput_small h]; simp
  · rw [sput_big h]; simp
/-! ### texts -/
/-- A text with its length ahead. -/
def stxt (t : ByteArray) : List UInt8 := sput t.size ++ t.data.toList
theorem stxt_len (t : ByteArray) : (stxt t).length = (sput t.size).length + t.size := by simp [stxt]
theorem tkt_seg {s t : ByteArray} {a : Nat} {m : Int} (ht : t.size ≤ 1000000) (hm : (t.size : Int) ≤ m) (h : Seg s a (stxt t)) : tkt s a m = (t, ((a + (stxt t).length : Nat) : Int), 0) := by
  obtain ⟨h1, h2⟩ := h.split
  have h3 := tk_seg (by omega) h1
  have h4 := h.le
  rw [stxt_len] at h4
  unfold tkt
  rw [h3]
  simp only [ne_eq, not_true_eq_false, ↓reduceIte, Int.toNat_natCast]
  rw [if_neg (by omega), if_neg (by omega)]
  have h5 : s.extract (a + (sput t.size).length) (a + (sput t.size).length + t.size) = t := by
    have := h2.eq_extract
    rw [size_list] at this
    rw [this]
    exact ba_ext (list_bs _)
  rw [h5, stxt_len]
  push_cast
  simp [Int.add_assoc]
theorem seg_tkt {s : ByteArray} {p m : Int} (h : (tkt s p m).2.2 = 0) : ∃ a : Nat, p = a ∧ Seg s a (stxt (tkt s p m).1) ∧ (tkt s p m).2.1 = ((a + (stxt (tkt s p m).1).length : Nat) : Int) ∧ ((tkt s p m).1.size : Int) ≤ m := by
  unfold tkt at h ⊢
  split at h
  · rename_i h1; exact absurd h h1
  · rename_i h1
    split at h
    · simp at h
    · rename_i h2
      split at h
      · simp at h
      · rename_i h3
        rw [if_neg h1, if_neg h2, if_neg h3]
        have h1' : (tk s p).2.2 = 0 := Classical.byContradiction fun hc => h1 hc
        obtain ⟨a, rfl, g1, g2, g3⟩ := seg_tk h1'
        generalize (tk s (a : Int)).1 = n at *
        rw [g2] at h3 ⊢
        simp only [Int.toNat_natCast] at h3 ⊢
        have hle := g1.le
        have hsz : (s.extract (a + (sput n).length) (a + (sput n).length + n)).size = n := by rw [ByteArray.size_extract]; omega
        refine ⟨a, rfl, ?_, ?_, by omega⟩
        · refine Seg.append ?_ ?_
          · rw [hsz]; exact g1
          · rw [hsz]
            refine ⟨by omega, ?_⟩
            simp only [ByteArray.data_extract, Array.toList_extract, List.extract_eq_take_drop]
            exact List.take_prefix _ _
        · rw [stxt_len, hsz]
          push_cast
          omega
/-! ### numbers with a sign -/
theorem tki_seg {s : ByteArray} {a : Nat} {n : Int} (h0 : -9223372036854775808 ≤ n) (h1 : n ≤ 9223372036854775807) (h : Seg s a (sput (zz n))) : tki s a = (n, ((a + (sput (zz n)).length : Nat) : Int), 0) := by
  unfold tki
  rw [tk_seg (zz_lt h0 h1) h]
  simp only [↓reduceIte, zi_zz]
theorem zz_zi (n : Nat) : zz (zi n) = n := by
  unfold zz zi
  split
  · split <;> omega
  · split <;> omega
theorem seg_tki {s : ByteArray} {p : Int} (h : (tki s p).2.2 = 0) : ∃ a : Nat, p = a ∧ Seg s a (sput (zz (tki s p).1)) ∧ (tki s p).2.1 = ((a + (sput (zz (tki s p).1)).length : Nat) : Int) ∧ -9223372036854775808 ≤ (tki s p).1 ∧ (tki s p).1 ≤ 9223372036854775807 := by
  unfold tki at h ⊢
  split at h
  · rename_i h1
    rw [if_pos h1]
    obtain ⟨a, rfl, g1, g2, g3⟩ := seg_tk h1
    refine ⟨a, rfl, ?_, ?_, ?_, ?_⟩
    · simp only [zz_zi]; exact g1
    · simp only [zz_zi]; exact g2
    · simp only [zi]; split <;> omega
    · simp only [zi]; split <;> omega
  · rename_i h1
    exact absurd h h1
end Go.Proofs.YtpkkjoiglemlgaaGreatDoor
