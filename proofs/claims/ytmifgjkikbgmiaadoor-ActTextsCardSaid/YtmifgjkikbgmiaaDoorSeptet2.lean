/-
  Package septet and the document's answer: PutText, PutInt; the document's Put. No condition.
-/
import Derived.Test.YtmifgjkikbgmiaaDoorSeptet
import Derived.PlainAid
namespace Go.Proofs.YtmifgjkikbgmiaaDoor
set_option linter.unusedVariables false
open Go.RowKit Go.Extern.Stop Go.Stop Go.Extern Go.ChangeShapes

/-- string([]byte{x}). -/
theorem conv_one (w : World) (b : UInt8) : (convert 62 9 (.slice (some ⟨w.heap.size, 0, none⟩) 1 1)).run Tryd.prog (w.alloc (.cells #[.int .u8 (u8i b)] 5)) = .ok (.string (bs [b])) (w.alloc (.cells #[.int .u8 (u8i b)] 5)) :=
  run_convert_bytes_back _ 62 9 5 ⟨w.heap.size, 0, none⟩ 1 [b] Tryd.underlying62 Tryd.underlying5 Tryd.underlying9 fun j hj => by
    obtain rfl : j = 0 := by simpa using hj
    simp [Addr.add, u8i]
theorem add_str (w : World) (a b : List UInt8) (h : a.length + b.length ≤ 9223372036854775807) : (Op.stringOp .add (bs a) (bs b)).run Tryd.prog w = .ok (.string (bs (a ++ b))) w := by
  rw [run_string_add_sum w _ _ (by rw [size_bs, size_bs]; exact h), bs_append]
theorem refu8 (k : Nat) : 128 + (k : Int) % 128 = u8i (b8 k) := by
  have : (UInt8.ofNat (128 + k % 128)).toNat = 128 + k % 128 := by simp; omega
  rw [b8_eq, u8i, this]
  omega
theorem sput_len : ∀ (n j : Nat), n < 128 ^ (j + 1) → (sput n).length ≤ j + 1
  | n, 0, h => by rw [sput_small (by simpa using h)]; simp
  | n, j + 1, h => by
    by_cases hn : n < 128
    · rw [sput_small hn]; simp
    · rw [sput_big hn]
      have := sput_len (n / 128) j (by rw [Nat.pow_succ] at h; exact Nat.div_lt_of_lt_mul (by rw [Nat.mul_comm]; exact h))
      simp
      omega
theorem sput_ten {n : Nat} (h : n < 18446744073709551616) : (sput n).length ≤ 10 := sput_len n 9 (Nat.lt_of_lt_of_le h (by decide))
/-- A number with a sign, as one without. -/
def zz (n : Int) : Nat := if n < 0 then (2 * (-(n + 1)) + 1).toNat else (2 * n).toNat
theorem zz_lt {n : Int} (h0 : -9223372036854775808 ≤ n) (h1 : n ≤ 9223372036854775807) : zz n < 18446744073709551616 := by unfold zz; split <;> omega
theorem ofInt_u64 (a : Nat) (ha : a < 18446744073709551616) : (BitVec.ofInt 64 (a : Int)).toNat = a := by
  rw [BitVec.ofInt_natCast, BitVec.toNat_ofNat]; exact Nat.mod_eq_of_lt (by omega)
theorem u64_xor_ones (a : Nat) (ha : a < 18446744073709551616) : bits .xor .u64 (a : Int) 18446744073709551615 = 18446744073709551615 - (a : Int) := by
  have e1 : BitVec.ofInt 64 (18446744073709551615 : Int) = BitVec.allOnes 64 := by decide +kernel
  show IntKind.u64.wrap ((BitVec.ofInt 64 (a : Int) ^^^ BitVec.ofInt 64 (18446744073709551615 : Int)).toNat : Int) = _
  rw [e1, BitVec.xor_allOnes, BitVec.toNat_not, ofInt_u64 a ha, IntKind.wrap_u64]
  omega
theorem u64_xor_zero (a : Nat) (ha : a < 18446744073709551616) : bits .xor .u64 (a : Int) 0 = (a : Int) := by
  have e1 : BitVec.ofInt 64 (0 : Int) = 0#64 := by decide +kernel
  show IntKind.u64.wrap ((BitVec.ofInt 64 (a : Int) ^^^ BitVec.ofInt 64 (0 : Int)).toNat : Int) = _
  rw [e1, BitVec.xor_zero, ofInt_u64 a ha, IntKind.wrap_u64]
  omega
theorem zig {n : Int} (h0 : -9223372036854775808 ≤ n) (h1 : n ≤ 9223372036854775807) : bits .xor .u64 (IntKind.u64.wrap (wrap64 (n * 2))) (IntKind.u64.wrap (n / 9223372036854775808)) = (zz n : Int) := by
  have e1 : IntKind.u64.wrap (wrap64 (n * 2)) = (((n * 2) % 18446744073709551616).toNat : Nat) := by
    rw [IntKind.wrap_u64]
    unfold wrap64
    omega
  rw [e1]
  by_cases hn : n < 0
  · have e2 : IntKind.u64.wrap (n / 9223372036854775808) = 18446744073709551615 := by rw [IntKind.wrap_u64]; omega
    rw [e2, u64_xor_ones _ (by omega)]
    unfold zz
    rw [if_pos hn]
    omega
  · have e2 : IntKind.u64.wrap (n / 9223372036854775808) = 0 := by rw [IntKind.wrap_u64]; omega
    rw [e2, u64_xor_zero _ (by omega)]
    unfold zz
    rw [if_neg hn]
    omega
end Go.Proofs.YtmifgjkikbgmiaaDoor
