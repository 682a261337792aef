/-
  Package septet and the document's answer: PutText, PutInt; the document's Put. No condition.
-/
import Derived.Test.YtpkkjoiglemlgaaGreatDoorSeptet
import Derived.PlainAid
namespace Go.Proofs.YtpkkjoiglemlgaaGreatDoor
set_option linter.unusedVariables false
open Go.RowKit Go.Extern.Stop Go.Stop Go.Extern Go.ChangeShapes

/-- string([]byte{x}). -/
theorem conv_one (w : World) (b : UInt8) : (convert 128 9 (.slice (some ⟨w.heap.size, 0, none⟩) 1 1)).run Tryz.prog (w.alloc (.cells #[.int .u8 (u8i b)] 5)) = .ok (.string (bs [b])) (w.alloc (.cells #[.int .u8 (u8i b)] 5)) :=
  run_convert_bytes_back _ 128 9 5 ⟨w.heap.size, 0, none⟩ 1 [b] Tryz.underlying128 Tryz.underlying5 Tryz.underlying9 fun j hj => by
    obtain rfl : j = 0 := by simpa using hj
    simp [Addr.add, u8i]
theorem add_str (w : World) (a b : List UInt8) (h : a.length + b.length ≤ 9223372036854775807) : (Op.stringOp .add (bs a) (bs b)).run Tryz.prog w = .ok (.string (bs (a ++ b))) w := by
  rw [run_string_add_sum w _ _ (by rw [size_bs, size_bs]; exact h), bs_append]
theorem refu8 (k : Nat) : 128 + (k : Int) % 128 = u8i (b8 k) := by
  have : (UInt8.ofNat (128 + k % 128)).toNat = 128 + k % 128 := by simp; omega
  rw [b8_eq, u8i, this]
  omega
theorem sput_len : ∀ (n j : Nat), n < 128 ^ (j + 1) → (sput n).length ≤ j + 1
  | n, 0, h => by rw [sput_small (by simpa using h)]; simp
  | n, j + 1, h => by
    by_cases hn : n < 128
    · rw [sput_small hn]; simp
    · rw [sput_big hn]
      have := sput_len (n / 128) j (by rw [Nat.pow_succ] at h; exact Nat.div_lt_of_lt_mul (by rw [Nat.mul_comm]; exact h))
      simp
      omega
theorem sput_ten {n : Nat} (h : n < 18446744073709551616) : (sput n).length ≤ 10 := sput_len n 9 (Nat.lt_of_lt_of_le h (by decide))
set_option maxRecDepth 100000 in
set_option maxHeartbeats 1000000 in
theorem refPut_any (n : Nat) (h1 : n < 18446744073709551616) (w : World) :
    Calls Tryz.prog 55 #[.int .u64 n] w fun e w' => e = .returned (strL (sput n)) ∧ Below w.heap.size w w' := by
  replace h1 := Lib.hid h1
  go_enter Tryz.func55, Tryz.ntmps55
  go_wp2_with fail
  go_loopw [0, 3] (fun m v wr => ∃ (k : Nat) (acc : List UInt8), m = .int .u64 k ∧ k * 128 ^ acc.length < 18446744073709551616 ∧ acc.length ≤ 9 ∧ acc ++ sput k = sput n ∧ v = .string (bs acc) ∧ Below w.heap.size w wr) (fun m _ _ => (intOf m).toNat)
  case atStart => exact ⟨n, [], rfl, by simpa using h1.out, by simp, rfl, rfl, Below.refl _ _⟩
  case round =>
    obtain ⟨k, acc, rfl, hk, hl, hp, rfl, hb⟩ := hrel
    have hkb : k < 18446744073709551616 := Nat.lt_of_le_of_lt (Nat.le_mul_of_pos_right k (Nat.pow_pos (by decide))) hk
    replace hk := Lib.hid hk
    by_cases hlt : k < 128
    · have hc := conv_one wr (b7 k)
      have ha := fun W => add_str W acc [b7 k] (by simp; omega)
      have hk2 := u8_small hlt
      go_wp2_with fail
      go_ret
      refine ⟨?_, ?_⟩
      · rw [← hp, sput_small hlt, ← b7_eq]; rfl
      · (repeat first | exact Below.refl _ _ | assumption | refine Below.drew ?_ | refine below_drewN ?_ _ | refine Below.more_ ?_ _ | refine Below.setCell ?_ (by first | exact Nat.le_refl _ | (simp; done) | (simp; omega)) _)
    · have hc := conv_one wr (b8 k)
      have ha := fun W => add_str W acc [b8 k] (by simp; omega)
      have hx := refu8 k
      go_wp2_with fail
      go_roundw
      case rel =>
        obtain ⟨q1, q2⟩ := pow_bound hlt hl hk.out
        refine ⟨k / 128, acc ++ [b8 k], ?_, by simpa using q1, by simpa using q2, by rw [← hp, sput_big hlt, b8_eq]; simp, rfl, ?_⟩
        · go_num
        · (repeat first | exact Below.refl _ _ | assumption | refine Below.drew ?_ | refine below_drewN ?_ _ | refine Below.more_ ?_ _ | refine Below.setCell ?_ (by first | exact Nat.le_refl _ | (simp; done) | (simp; omega)) _)
      case measure => simp [intOf]; omega

theorem putText_any (s : ByteArray) (hs : s.size ≤ 1000000) (w : World) :
    Calls Tryz.prog 78 #[.string s] w fun e w' => e = .returned (.string (bs (sput s.size) ++ s)) ∧ Below w.heap.size w w' := by
  have hl := sput_ten (n := s.size) (by omega)
  have ha := fun W => run_string_add_sum (P := Tryz.prog) W (bs (sput s.size)) s (by rw [size_bs]; omega)
  go_enter Tryz.func78, Tryz.ntmps78
  go_wp2_with fail
  refine (put_any s.size (by omega) _).mono ?_; rintro e w1 ⟨rfl, hb⟩
  go_wp2_with fail
  go_ret
  exact ⟨rfl, hb⟩
theorem refPutText_any (s : ByteArray) (hs : s.size ≤ 1000000) (w : World) :
    Calls Tryz.prog 80 #[.string s] w fun e w' => e = .returned (.string (bs (sput s.size) ++ s)) ∧ Below w.heap.size w w' := by
  have hl := sput_ten (n := s.size) (by omega)
  have ha := fun W => run_string_add_sum (P := Tryz.prog) W (bs (sput s.size)) s (by rw [size_bs]; omega)
  go_enter Tryz.func80, Tryz.ntmps80
  go_wp2_with fail
  refine (refPut_any s.size (by omega) _).mono ?_; rintro e w1 ⟨rfl, hb⟩
  go_wp2_with fail
  go_ret
  exact ⟨rfl, hb⟩
/-- A number with a sign, as one without. -/
def zz (n : Int) : Nat := if n < 0 then (2 * (-(n + 1)) + 1).toNat else (2 * n).toNat
theorem zz_lt {n : Int} (h0 : -9223372036854775808 ≤ n) (h1 : n ≤ 9223372036854775807) : zz n < 18446744073709551616 := by unfold zz; split <;> omega
theorem refPutInt_any (n : Int) (h0 : -9223372036854775808 ≤ n) (h1 : n ≤ 9223372036854775807) (w : World) :
    Calls Tryz.prog 81 #[.int .i64 n] w fun e w' => e = .returned (strL (sput (zz n))) ∧ Below w.heap.size w w' := by
  have hlt := zz_lt h0 h1
  by_cases hn : n < 0
  · have hz : 2 * -(n + 1) + 1 = (zz n : Int) := by unfold zz; rw [if_pos hn]; omega
    go_enter Tryz.func81, Tryz.ntmps81
    go_wp2_with fail
    refine (refPut_any (zz n) hlt _).mono ?_; rintro e w1 ⟨rfl, hb⟩
    go_wp2_with fail
    go_ret
    exact ⟨rfl, hb⟩
  · have hz : 2 * n = (zz n : Int) := by unfold zz; rw [if_neg hn]; omega
    go_enter Tryz.func81, Tryz.ntmps81
    go_wp2_with fail
    refine (refPut_any (zz n) hlt _).mono ?_; rintro e w1 ⟨rfl, hb⟩
    go_wp2_with fail
    go_ret
    exact ⟨rfl, hb⟩
theorem ofInt_u64 (a : Nat) (ha : a < 18446744073709551616) : (BitVec.ofInt 64 (a : Int)).toNat = a := by
  rw [BitVec.ofInt_natCast, BitVec.toNat_ofNat]; exact Nat.mod_eq_of_lt (by omega)
theorem u64_xor_ones (a : Nat) (ha : a < 18446744073709551616) : bits .xor .u64 (a : Int) 18446744073709551615 = 18446744073709551615 - (a : Int) := by
  have e1 : BitVec.ofInt 64 (18446744073709551615 : Int) = BitVec.allOnes 64 := by decide +kernel
  show IntKind.u64.wrap ((BitVec.ofInt 64 (a : Int) ^^^ BitVec.ofInt 64 (18446744073709551615 : Int)).toNat : Int) = _
  rw [e1, BitVec.xor_allOnes, BitVec.toNat_not, ofInt_u64 a ha, IntKind.wrap_u64]
  omega
theorem u64_xor_zero (a : Nat) (ha : a < 18446744073709551616) : bits .xor .u64 (a : Int) 0 = (a : Int) := by
  have e1 : BitVec.ofInt 64 (0 : Int) = 0#64 := by decide +kernel
  show IntKind.u64.wrap ((BitVec.ofInt 64 (a : Int) ^^^ BitVec.ofInt 64 (0 : Int)).toNat : Int) = _
  rw [e1, BitVec.xor_zero, ofInt_u64 a ha, IntKind.wrap_u64]
  omega
theorem zig {n : Int} (h0 : -9223372036854775808 ≤ n) (h1 : n ≤ 9223372036854775807) : bits .xor .u64 (IntKind.u64.wrap (wrap64 (n * 2))) (IntKind.u64.wrap (n / 9223372036854775808)) = (zz n : Int) := by
  have e1 : IntKind.u64.wrap (wrap64 (n * 2)) = (((n * 2) % 18446744073709551616).toNat : Nat) := by
    rw [IntKind.wrap_u64]
    unfold wrap64
    omega
  rw [e1]
  by_cases hn : n < 0
  · have e2 : IntKind.u64.wrap (n / 9223372036854775808) = 18446744073709551615 := by rw [IntKind.wrap_u64]; omega
    rw [e2, u64_xor_ones _ (by omega)]
    unfold zz
    rw [if_pos hn]
    omega
  · have e2 : IntKind.u64.wrap (n / 9223372036854775808) = 0 := by rw [IntKind.wrap_u64]; omega
    rw [e2, u64_xor_zero _ (by omega)]
    unfold zz
    rw [if_neg hn]
    omega
theorem putInt_any (n : Int) (h0 : -9223372036854775808 ≤ n) (h1 : n ≤ 9223372036854775807) (w : World) :
    Calls Tryz.prog 79 #[.int .i64 n] w fun e w' => e = .returned (strL (sput (zz n))) ∧ Below w.heap.size w w' := by
  have hlt := zz_lt h0 h1
  have hz := zig h0 h1
  go_enter Tryz.func79, Tryz.ntmps79
  go_wp2_with fail
  refine (put_any (zz n) hlt _).mono ?_; rintro e w1 ⟨rfl, hb⟩
  go_wp2_with fail
  go_ret
  exact ⟨rfl, hb⟩
end Go.Proofs.YtpkkjoiglemlgaaGreatDoor
