/-
  Septets, plainly: a number comes back of its bytes; bytes that are a number's are those that are written. No program in sight. No condition.
-/
import Derived.Test.YtpkkjoiglemlgaaGreatDoorSeptet5
namespace Go.Proofs.YtpkkjoiglemlgaaGreatDoor
set_option linter.unusedVariables false
open Go.RowKit

def lf (L : List UInt8) (j : Nat) : Nat := (L[j]?.getD 0).toNat
theorem psum_shift (f : Nat → Nat) : ∀ k, psum f (k + 1) = f 0 % 128 + 128 * psum (fun j => f (j + 1)) k
  | 0 => by simp [psum]
  | k + 1 => by
    rw [psum, psum_shift f k, psum, Nat.pow_succ, Nat.mul_add, Nat.add_assoc]
    congr 1
    rw [← Nat.mul_assoc, Nat.mul_comm _ 128]
theorem sput_spec : ∀ (N n : Nat) (rest : List UInt8), n ≤ N → ∃ m, (sput n).length = m + 1 ∧ (∀ j, j < m → 128 ≤ lf (sput n ++ rest) j) ∧ lf (sput n ++ rest) m < 128 ∧ psum (lf (sput n ++ rest)) (m + 1) = n ∧
    (lf (sput n ++ rest) m = 0 → n = 0) ∧ (0 < m → 128 ≤ n) := by
  intro N
  induction N with
  | zero =>
    intro n rest h
    obtain rfl : n = 0 := by omega
    refine ⟨0, by rw [sput_small (by decide)]; rfl, fun j hj => by omega, ?_, ?_, fun _ => rfl, fun h => by omega⟩
    · rw [sput_small (by decide)]; simp [lf]
    · rw [sput_small (by decide)]; simp [lf, psum]
  | succ N ih =>
    intro n rest h
    by_cases hn : n < 128
    · have h0 : lf (sput n ++ rest) 0 = n := by rw [sput_small hn]; simp [lf]; omega
      refine ⟨0, by rw [sput_small hn]; rfl, fun j hj => by omega, by omega, ?_, by omega, fun h => by omega⟩
      simp only [psum, h0]
      omega
    · obtain ⟨m, h1, h2, h3, h4, h5, h6⟩ := ih (n / 128) rest (by omega)
      have e : sput n ++ rest = UInt8.ofNat (128 + n % 128) :: (sput (n / 128) ++ rest) := by rw [sput_big hn]; rfl
      have hz : lf (sput n ++ rest) 0 = 128 + n % 128 := by rw [e]; simp [lf]; omega
      have hs : ∀ j, lf (sput n ++ rest) (j + 1) = lf (sput (n / 128) ++ rest) j := fun j => by rw [e]; simp [lf]
      refine ⟨m + 1, by rw [sput_big hn]; simp [h1], fun j hj => ?_, by rw [hs]; exact h3, ?_, fun h => ?_, fun _ => by omega⟩
      · rcases j with _ | j
        · rw [hz]; omega
        · rw [hs]; exact h2 j (by omega)
      · rw [psum_shift, hz]
        have : (fun j => lf (sput n ++ rest) (j + 1)) = lf (sput (n / 128) ++ rest) := funext hs
        rw [this, h4]
        omega
      · rw [hs] at h
        have := h5 h
        omega
theorem sb_list (s : ByteArray) (i : Nat) : sb s i = lf s.data.toList i := by
  unfold sb lf
  split
  · rename_i h
    have h' : i < s.data.size := h
    rw [Array.getElem?_toList, Array.getElem?_eq_getElem h']
    rfl
  · rename_i h
    have h' : ¬ i < s.data.size := h
    rw [Array.getElem?_toList, Array.getElem?_eq_none (by omega)]
    rfl
/-- A number comes back of its bytes, wherever they stand. -/
theorem tk_back (x y : ByteArray) (n : Nat) (hn : n < 18446744073709551616) : tk (x ++ bs (sput n) ++ y) x.size = (n, (x.size : Int) + (sput n).length, 0) := by
  obtain ⟨m, h1, h2, h3, h4, h5, h6⟩ := sput_spec n n y.data.toList (Nat.le_refl _)
  have h10 := sput_ten hn
  have hsz : (x ++ bs (sput n) ++ y).size = x.size + (sput n).length + y.size := by simp [size_bs]
  have hf : tkf (x ++ bs (sput n) ++ y) x.size = lf (sput n ++ y.data.toList) := by
    funext j
    unfold tkf
    rw [sb_list]
    unfold lf
    have e : (x ++ bs (sput n) ++ y).data.toList = x.data.toList ++ (sput n ++ y.data.toList) := by simp [bs]
    rw [e, List.getElem?_append_right (by simp)]
    congr 3
    have : x.data.toList.length = x.size := by simp
    omega
  rw [tk_in (by omega), hf, hsz]
  have hld : ldK (lf (sput n ++ y.data.toList)) (x.size + (sput n).length + y.size - x.size) = m := ldK_at (by omega) (fun j hj => ⟨by omega, h2 j hj⟩) (.inr h3)
  have h9 : ¬ (m = 9 ∧ 1 < lf (sput n ++ y.data.toList) 9) := by
    rintro ⟨rfl, hb⟩
    have h7 : psum (lf (sput n ++ y.data.toList)) (9 + 1) = psum (lf (sput n ++ y.data.toList)) 9 + lf (sput n ++ y.data.toList) 9 % 128 * 128 ^ 9 := rfl
    have h8 : 2 * 128 ^ 9 ≤ lf (sput n ++ y.data.toList) 9 % 128 * 128 ^ 9 := Nat.mul_le_mul_right _ (by omega)
    have h11 : (2 : Nat) * 128 ^ 9 = 18446744073709551616 := by decide
    omega
  have hc : tkc (lf (sput n ++ y.data.toList)) (x.size + (sput n).length + y.size - x.size) = 0 := by
    unfold tkc
    rw [hld, if_neg (by omega), if_neg (by omega), if_neg h9, if_neg (fun h => by have := h5 h.2; have := h6 h.1; omega)]
  rw [if_pos hc, hld, h4, h1]
theorem ldK_spec {f : Nat → Nat} {n k : Nat} (h : ldK f n = k) (hk : k < 10) : (∀ j, j < k → j < n ∧ 128 ≤ f j) ∧ (n ≤ k ∨ f k < 128) := by
  unfold ldK at h
  cases hx : (List.range 10).find? fun k => decide (n ≤ k) || decide (f k < 128) with
  | none => rw [hx] at h; simp at h; omega
  | some i =>
    rw [hx] at h
    simp only [Option.getD_some] at h
    subst h
    rw [List.find?_range_eq_some] at hx
    obtain ⟨a, _, c⟩ := hx
    refine ⟨fun j hj => ?_, by simpa using a⟩
    have := c j hj
    simp at this
    omega
theorem psum_sput : ∀ (k : Nat) (f : Nat → Nat), (∀ j, j < k → 128 ≤ f j ∧ f j < 256) → f k < 128 → (0 < k → f k ≠ 0) → sput (psum f (k + 1)) = (List.range (k + 1)).map fun j => UInt8.ofNat (f j)
  | 0, f, _, h, _ => by
    have : psum f 1 = f 0 := by simp only [psum]; omega
    rw [this, sput_small h]
    rfl
  | k + 1, f, h, hk, h0 => by
    have hm : 1 ≤ psum (fun j => f (j + 1)) (k + 1) := by
      have h1 : 1 * 1 ≤ f (k + 1) % 128 * 128 ^ k := Nat.mul_le_mul (by have := h0 (by omega); omega) (Nat.pow_pos (by decide))
      simp only [psum]
      omega
    have h00 := h 0 (by omega)
    have ih := psum_sput k (fun j => f (j + 1)) (fun j hj => h (j + 1) (by omega)) hk (fun _ => h0 (by omega))
    rw [psum_shift, sput_big (by omega), List.range_succ_eq_map]
    have e1 : (f 0 % 128 + 128 * psum (fun j => f (j + 1)) (k + 1)) / 128 = psum (fun j => f (j + 1)) (k + 1) := by omega
    have e2 : 128 + (f 0 % 128 + 128 * psum (fun j => f (j + 1)) (k + 1)) % 128 = f 0 := by omega
    rw [e1, e2, ih]
    simp [List.map_map, Function.comp_def]
/-- What is taken has just the bytes that were passed. -/
theorem tk_took {s : ByteArray} {p : Int} (h : (tk s p).2.2 = 0) : ∃ a b : Nat, p = a ∧ (tk s p).2.1 = b ∧ a < b ∧ b ≤ s.size ∧ bs (sput (tk s p).1) = s.extract a b ∧ (tk s p).1 < 18446744073709551616 := by
  obtain ⟨a, k, rfl, hk, hk9, hld, hc, htk, hlt⟩ := tk_ok h
  obtain ⟨g1, g2⟩ := ldK_spec hld (by omega)
  have hkn : k < s.size - a := by omega
  have hfk : tkf s a k < 128 := by omega
  have h0 : 0 < k → tkf s a k ≠ 0 := by
    intro hk0 hz
    unfold tkc at hc
    rw [hld, if_neg (by omega), if_neg (by omega)] at hc
    by_cases h9 : k = 9 ∧ 1 < tkf s a 9
    · rw [if_pos h9] at hc; cases hc
    · rw [if_neg h9, if_pos ⟨hk0, hz⟩] at hc; cases hc
  have hp := psum_sput k (tkf s a) (fun j hj => ⟨(g1 j hj).2, sb_lt _ _⟩) hfk h0
  rw [htk]
  refine ⟨a, a + k + 1, rfl, by push_cast; rfl, by omega, by omega, ?_, hlt⟩
  rw [hp]
  apply ByteArray.ext
  apply Array.ext'
  apply List.ext_getElem?
  intro j
  simp only [bs, ByteArray.data_extract, Array.toList_extract, List.extract_eq_take_drop]
  rw [List.getElem?_take]
  by_cases hj : j < k + 1
  · rw [if_pos (by omega), List.getElem?_drop, List.getElem?_map, List.getElem?_range hj]
    have hin : a + j < s.data.toList.length := by have : s.data.toList.length = s.size := by simp
                                                  omega
    simp only [Option.map_some]
    rw [List.getElem?_eq_getElem hin]
    unfold tkf
    rw [sb_list]
    unfold lf
    rw [List.getElem?_eq_getElem hin]
    simp
  · rw [if_neg (by omega), List.getElem?_eq_none (by simp; omega)]
theorem zi_zz {n : Int} : zi (zz n) = n := by
  unfold zz zi
  split
  · split <;> omega
  · split <;> omega
end Go.Proofs.YtpkkjoiglemlgaaGreatDoor
