/-
  Texts with their length ahead, plainly: they come back; cut, they are short. No program in sight. No condition.
-/
import Derived.Test.YtpkkjoiglemlgaaGreatDoorSeptet6
namespace Go.Proofs.YtpkkjoiglemlgaaGreatDoor
set_option linter.unusedVariables false
open Go.RowKit

theorem list_bs (l : List UInt8) : (bs l).data.toList = l := by simp [bs]
theorem ba_ext {a b : ByteArray} (h : a.data.toList = b.data.toList) : a = b := by
  apply ByteArray.ext
  exact Array.ext' h
theorem tk_head (n : Nat) (hn : n < 18446744073709551616) (y : ByteArray) : tk (bs (sput n) ++ y) 0 = (n, ((sput n).length : Int), 0) := by
  have h := tk_back ByteArray.empty y n hn
  have e : ByteArray.empty ++ bs (sput n) = bs (sput n) := by simp
  rw [e] at h
  simpa using h
theorem text_back (s y : ByteArray) (hs : s.size ≤ 500) : tkt (bs (sput s.size) ++ s ++ y) 0 500 = (s, ((bs (sput s.size) ++ s).size : Int), 0) := by
  have h := tk_head s.size (by omega) (s ++ y)
  rw [← ByteArray.append_assoc] at h
  have e : (bs (sput s.size) ++ s ++ y).extract (sput s.size).length ((sput s.size).length + s.size) = s := by
    apply ba_ext
    simp [bs, List.extract_eq_take_drop]
    exact List.take_of_length_le (by simp)
  unfold tkt
  rw [h]
  simp only [ne_eq, not_true_eq_false, ↓reduceIte, Int.toNat_natCast, e]
  rw [if_neg (by omega), if_neg (by simp [size_bs]; omega)]
  simp [size_bs]
theorem text_cut (s : ByteArray) (k : Nat) (hs : s.size ≤ 500) (hk : k < (bs (sput s.size) ++ s).size) : (tkt ((bs (sput s.size) ++ s).extract 0 k) 0 500).2.2 = 2 := by
  have h10 := sput_ten (n := s.size) (by omega)
  have hsz : (bs (sput s.size) ++ s).size = (sput s.size).length + s.size := by simp [size_bs]
  have hszk : ((bs (sput s.size) ++ s).extract 0 k).size = k := by rw [ByteArray.size_extract]; omega
  by_cases hlt : k < (sput s.size).length
  · obtain ⟨m, h1, h2, _⟩ := sput_spec s.size s.size s.data.toList (Nat.le_refl _)
    have hf : ∀ j, j < k → tkf ((bs (sput s.size) ++ s).extract 0 k) 0 j = lf (sput s.size ++ s.data.toList) j := by
      intro j hj
      unfold tkf
      rw [sb_list]
      unfold lf
      have e : ((bs (sput s.size) ++ s).extract 0 k).data.toList = (sput s.size ++ s.data.toList).take k := by
        simp [bs, List.extract_eq_take_drop, ← List.take_append]
      rw [e, List.getElem?_take, if_pos (by omega)]
      simp
    have hld : ldK (tkf ((bs (sput s.size) ++ s).extract 0 k) 0) (k - 0) = k := ldK_at (by omega) (fun j hj => ⟨by omega, by rw [hf j hj]; exact h2 j (by omega)⟩) (.inl (by omega))
    have hc : tkc (tkf ((bs (sput s.size) ++ s).extract 0 k) 0) (k - 0) = 2 := by
      unfold tkc
      rw [hld, if_neg (by omega), if_pos (by omega)]
    have ht : tk ((bs (sput s.size) ++ s).extract 0 k) ((0 : Nat) : Int) = (0, 0, 2) := tk_bad (a := 0) (by omega) (by rw [hszk]; exact hc) (by decide)
    unfold tkt
    rw [show (0 : Int) = ((0 : Nat) : Int) from rfl, ht]
    simp
  · have e : (bs (sput s.size) ++ s).extract 0 k = bs (sput s.size) ++ s.extract 0 (k - (sput s.size).length) := by
      apply ba_ext
      simp only [bs, ByteArray.data_extract, ByteArray.data_append, Array.toList_extract, Array.toList_append, List.extract_eq_take_drop, Nat.sub_zero, List.drop_zero]
      rw [List.take_append, List.take_of_length_le (l := sput s.size) (by omega)]
    have h := tk_head s.size (by omega) (s.extract 0 (k - (sput s.size).length))
    rw [← e] at h
    unfold tkt
    rw [h]
    simp only [ne_eq, not_true_eq_false, ↓reduceIte]
    rw [if_neg (by omega), hszk, if_pos (by omega)]
end Go.Proofs.YtpkkjoiglemlgaaGreatDoor
