/-
  Package septet: Take; the document's. No condition.
-/
import Derived.Test.YtmifgjkikbgmiaaDoorSeptet2
import Derived.WalkMore
namespace Go.Proofs.YtmifgjkikbgmiaaDoor
set_option linter.unusedVariables false
open Go.RowKit Go.Extern.Stop Go.Stop Go.Extern Go.ChangeShapes

/-- A text's byte. -/
@[irreducible] def sb (s : ByteArray) (i : Nat) : Nat := if h : i < s.size then s[i].toNat else 0
theorem sb_lt (s : ByteArray) (i : Nat) : sb s i < 256 := by
  unfold sb
  split
  · exact UInt8.toNat_lt _
  · omega
theorem sb_eq {s : ByteArray} {i : Nat} (h : i < s.size) : s[i].toNat = sb s i := by unfold sb; rw [dif_pos h]
theorem index_sb (s : ByteArray) (i : Nat) (j : Int) (hj : j = i) (h : i < s.size) (w : World) : (Instr.index 9 (.string s) (.int .i64 j)).run Tryd.prog w = .ok (.int .u8 (sb s i : Nat)) w := by
  subst hj
  rw [run_index_string w 9 s .i64 i Tryd.underlying9, dif_pos ⟨by omega, by omega⟩, ← sb_eq h]
  rfl
def ldK (f : Nat → Nat) (n : Nat) : Nat := ((List.range 10).find? fun k => decide (n ≤ k) || decide (f k < 128)).getD 10
theorem ldK_at {f : Nat → Nat} {n k : Nat} (hk : k < 10) (hb : ∀ j, j < k → j < n ∧ 128 ≤ f j) (hs : n ≤ k ∨ f k < 128) : ldK f n = k := by
  unfold ldK
  have : ((List.range 10).find? fun k => decide (n ≤ k) || decide (f k < 128)) = some k := by
    rw [List.find?_range_eq_some]
    refine ⟨by simpa using hs, by simpa using hk, fun j hj => ?_⟩
    have := hb j hj
    simp
    omega
  rw [this]
  rfl
theorem ldK_ten {f : Nat → Nat} {n : Nat} (hb : ∀ j, j < 10 → j < n ∧ 128 ≤ f j) : ldK f n = 10 := by
  unfold ldK
  have : ((List.range 10).find? fun k => decide (n ≤ k) || decide (f k < 128)) = none := by
    rw [List.find?_eq_none]
    intro j hj
    have := hb j (by simpa using hj)
    simp
    omega
  rw [this]
  rfl
def tkc (f : Nat → Nat) (n : Nat) : Int :=
  if ldK f n = 10 then 3 else if n ≤ ldK f n then 2 else if ldK f n = 9 ∧ 1 < f 9 then 3 else if 0 < ldK f n ∧ f (ldK f n) = 0 then 1 else 0
def psum (f : Nat → Nat) : Nat → Nat
  | 0 => 0
  | i + 1 => psum f i + f i % 128 * 128 ^ i
def tkf (s : ByteArray) (a : Nat) : Nat → Nat := fun j => sb s (a + j)
/-- What Take answers: the number, the place behind it, a code. -/
def tk (s : ByteArray) (p : Int) : Nat × Int × Int :=
  if p < 0 ∨ (s.size : Int) < p then (0, 0, 4)
  else if tkc (tkf s p.toNat) (s.size - p.toNat) = 0 then (psum (tkf s p.toNat) (ldK (tkf s p.toNat) (s.size - p.toNat) + 1), p + (ldK (tkf s p.toNat) (s.size - p.toNat) + 1 : Nat), 0)
  else (0, 0, tkc (tkf s p.toNat) (s.size - p.toNat))
theorem psum_lt (f : Nat → Nat) : ∀ k, psum f k < 128 ^ k
  | 0 => by simp [psum]
  | k + 1 => by
    have h := psum_lt f k
    have h2 : f k % 128 * 128 ^ k ≤ 127 * 128 ^ k := Nat.mul_le_mul_right _ (by omega)
    rw [psum, Nat.pow_succ]
    omega
theorem and127 (c : Nat) (h : c < 256) : bits .and .u8 (c : Int) 127 = ((c % 128 : Nat) : Int) := by
  have : ∀ m : Fin 256, bits .and .u8 ((m.val : Nat) : Int) 127 = ((m.val % 128 : Nat) : Int) := by decide +kernel
  exact this ⟨c, h⟩
theorem u64_or_nat (a b : Nat) (ha : a < 18446744073709551616) (hb : b < 18446744073709551616) : bits .or .u64 (a : Int) (b : Int) = ((a ||| b : Nat) : Int) := by
  have hx : a ||| b < 2 ^ 64 := Nat.or_lt_two_pow (by omega) (by omega)
  show IntKind.u64.wrap ((BitVec.ofInt 64 (a : Int) ||| BitVec.ofInt 64 (b : Int)).toNat : Int) = _
  rw [BitVec.toNat_or, ofInt_u64 a ha, ofInt_u64 b hb, IntKind.wrap_u64]
  omega
theorem wrap_u64_nat (a : Nat) (ha : a < 18446744073709551616) : IntKind.u64.wrap (a : Int) = (a : Int) := by
  rw [IntKind.wrap_u64]; omega
theorem pow7 (k : Nat) : (2 : Nat) ^ (7 * k) = 128 ^ k := by rw [Nat.pow_mul]
theorem or_step (f : Nat → Nat) (k c : Nat) (hc : f k = c) (h : c < 256) (hk : k ≤ 8 ∨ (k = 9 ∧ c ≤ 1)) :
    bits .or .u64 (psum f k : Int) (IntKind.u64.wrap (IntKind.u64.wrap (bits .and .u8 (c : Int) 127) * 2 ^ (7 * k))) = ((psum f (k + 1) : Nat) : Int) := by
  have hp := psum_lt f k
  have hpow : (128 : Nat) ^ k ≤ 9223372036854775808 := Nat.le_trans (Nat.pow_le_pow_right (by decide) (show k ≤ 9 by omega)) (by decide)
  have hb : c % 128 * 128 ^ k < 18446744073709551616 := by
    rcases hk with hk | ⟨rfl, hk⟩
    · have h1 : (128 : Nat) ^ k ≤ 72057594037927936 := Nat.le_trans (Nat.pow_le_pow_right (by decide) hk) (by decide)
      have h2 : c % 128 * 128 ^ k ≤ 127 * 72057594037927936 := Nat.mul_le_mul (by omega) h1
      omega
    · have h2 : c % 128 * 128 ^ 9 ≤ 1 * 128 ^ 9 := Nat.mul_le_mul_right _ (by omega)
      have h3 : (128 : Nat) ^ 9 = 9223372036854775808 := by decide
      omega
  have e1 : ((c % 128 : Nat) : Int) * 2 ^ (7 * k) = ((c % 128 * 128 ^ k : Nat) : Int) := by rw [← pow7]; push_cast; rfl
  rw [and127 c h, wrap_u64_nat _ (by omega), e1, wrap_u64_nat _ hb, u64_or_nat _ _ (by omega) hb, psum, hc]
  congr 1
  have h2 := Nat.two_pow_add_eq_or_of_lt (i := 7 * k) (b := psum f k) (by rw [pow7]; exact hp) (c % 128)
  rw [pow7] at h2
  rw [Nat.or_comm, Nat.mul_comm, ← h2, Nat.mul_comm]
  omega
theorem tk_in {s : ByteArray} {a : Nat} (ha : a ≤ s.size) : tk s (a : Int) = if tkc (tkf s a) (s.size - a) = 0 then (psum (tkf s a) (ldK (tkf s a) (s.size - a) + 1), (a : Int) + (ldK (tkf s a) (s.size - a) + 1 : Nat), 0) else (0, 0, tkc (tkf s a) (s.size - a)) := by
  unfold tk
  rw [if_neg (by omega)]
  simp only [Int.toNat_natCast]
theorem tk_bad {s : ByteArray} {a : Nat} (ha : a ≤ s.size) {c : Int} (hc : tkc (tkf s a) (s.size - a) = c) (h0 : c ≠ 0) : tk s (a : Int) = (0, 0, c) := by
  rw [tk_in ha, hc, if_neg h0]
end Go.Proofs.YtmifgjkikbgmiaaDoor
