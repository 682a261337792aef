/-
  Texts stirred into numbers, and the ways that these begin (layer 5). No condition.
-/
import Derived.Test.YtfelkkbgbgnpaaaPlan
import Derived.OpenShut
namespace Go.Proofs.Ytfelkkbgbgnpaaa
set_option linter.unusedVariables false
open Go.ChangeShapes Go.WideShapes Go.ChangeAt Go.RowKit
open Go.ChangeMaps (setBlock)

/-- A text's byte. -/
@[irreducible] def tb (s : ByteArray) (i : Nat) : Nat := if h : i < s.size then s[i].toNat else 0
theorem tb_lt (s : ByteArray) (i : Nat) : tb s i < 256 := by
  unfold tb
  split
  · exact UInt8.toNat_lt _
  · omega
theorem index_tb (s : ByteArray) (i : Nat) (h : i < s.size) (w : World) : (Instr.index 9 (.string s) (.int .i64 (i : Int))).run Try.prog w = .ok (.int .u8 (tb s i : Nat)) w := by
  have e : s[i].toNat = tb s i := by unfold tb; rw [dif_pos h]
  rw [run_index_string w 9 s .i64 i Try.underlying9, dif_pos ⟨by omega, by omega⟩, ← e]
  rfl
def moreP (n c : Int) : Int := bits BinOp.xor IntKind.u64 (IntKind.u64.wrap (bits BinOp.xor IntKind.u64 n c * 1099511628211)) (IntKind.u64.wrap (bits BinOp.xor IntKind.u64 n c * 1099511628211) / 536870912)
theorem bits_ok (op : BinOp) (x y : Int) : 0 ≤ bits op IntKind.u64 x y ∧ bits op IntKind.u64 x y ≤ 18446744073709551615 := bounds_u64 (wf_bits op .u64 x y)
theorem moreP_ok (n c : Int) : 0 ≤ moreP n c ∧ moreP n c ≤ 18446744073709551615 := bits_ok _ _ _
theorem more_any (n c : Int) (hn : 0 ≤ n ∧ n ≤ 18446744073709551615) (hc : 0 ≤ c ∧ c ≤ 255) (w : World) : Calls Try.prog 149 #[.int .u64 n, .int .u8 c] w fun e w' => e = .returned (.int .u64 (moreP n c)) ∧ w = w' := by
  go_enter Try.func149, Try.ntmps149
  go_wp2_with fail
  go_ret
  exact ⟨rfl, rfl⟩
theorem refMore_any (n c : Int) (hn : 0 ≤ n ∧ n ≤ 18446744073709551615) (hc : 0 ≤ c ∧ c ≤ 255) (w : World) : Calls Try.prog 146 #[.int .u64 n, .int .u8 c] w fun e w' => e = .returned (.int .u64 (moreP n c)) ∧ w = w' := by
  have hq : ∀ x : Int, IntKind.u64.wrap ((IntKind.u64.wrap x).tdiv 536870912) = IntKind.u64.wrap x / 536870912 := fun x => IntWalk.u64_quo _ _ (by rw [IntKind.wrap_u64]; omega)
  have hm : moreP n c = bits BinOp.xor IntKind.u64 (IntKind.u64.wrap (bits BinOp.xor IntKind.u64 n c * 1099511628211)) (IntKind.u64.wrap ((IntKind.u64.wrap (bits BinOp.xor IntKind.u64 n c * 1099511628211)).tdiv 536870912)) := by rw [hq]; rfl
  rw [hm]
  clear hm hq
  go_enter Try.func146, Try.ntmps146
  go_wp2_with fail
  go_ret
  exact ⟨rfl, rfl⟩
/-- The number behind some bytes. -/
def sumN (n : Int) (s : ByteArray) : Nat → Int
  | 0 => n
  | k + 1 => moreP (sumN n s k) (tb s k : Nat)
def sumP (seed : Int) (s : ByteArray) : Int := sumN (bits BinOp.xor IntKind.u64 seed 14695981039346656037) s s.size
theorem sumN_ok (n : Int) (hn : 0 ≤ n ∧ n ≤ 18446744073709551615) (s : ByteArray) : ∀ k, 0 ≤ sumN n s k ∧ sumN n s k ≤ 18446744073709551615
  | 0 => hn
  | k + 1 => moreP_ok _ _
theorem sumP_ok (seed : Int) (s : ByteArray) : 0 ≤ sumP seed s ∧ sumP seed s ≤ 18446744073709551615 := sumN_ok _ (bits_ok _ _ _) s s.size
set_option maxHeartbeats 1000000 in
theorem sum_any (seed : Int) (s : ByteArray) (hs : s.size ≤ 9223372036854775807) (w : World) : Calls Try.prog 130 #[.int .u64 seed, .string s] w fun e w' => e = .returned (.int .u64 (sumP seed s)) ∧ w = w' := by
  have hP : sumP seed s = sumN (bits BinOp.xor IntKind.u64 seed 14695981039346656037) s s.size := rfl
  have hok := sumN_ok _ (bits_ok BinOp.xor seed 14695981039346656037) s
  rw [hP]
  clear hP
  generalize hb : bits BinOp.xor IntKind.u64 seed 14695981039346656037 = b0 at *
  generalize hsz : s.size = n at *
  replace hok := Lib.hid hok
  go_enter Try.func130, Try.ntmps130
  go_wp2_with fail
  go_loop [5, 11] (fun v i => ∃ k : Nat, k ≤ n ∧ i = .int .i64 k ∧ v = .int .u64 (sumN b0 s k)) (fun _ i => n + 1 - (intOf i).toNat)
  case atStart => exact ⟨0, Nat.zero_le _, rfl, rfl⟩
  case round =>
    obtain ⟨k, hk, rfl, rfl⟩ := hrel
    by_cases hlt : k < n
    · have d2 : decide ((k : Int) < (n : Int)) = true := by simp; omega
      have hix := fun W => index_tb s k (by omega) W
      have hM := fun W => more_any (sumN b0 s k) (tb s k : Nat) (hok.out k) ⟨by omega, by have := tb_lt s k; omega⟩ W
      have hS : sumN b0 s (k + 1) = moreP (sumN b0 s k) (tb s k : Nat) := rfl
      generalize sumN b0 s k = x at *
      generalize tb s k = y at *
      rw [← hS] at hM
      replace hS := Lib.hid hS
      replace hM := Lib.hid hM
      go_wp2_with fail
      refine (hM.out _).mono ?_; rintro e w1 ⟨rfl, rfl⟩
      go_wp2_with fail
      go_round
      case rel => exact ⟨k + 1, by omega, by go_num, rfl⟩
      case measure => simp [intOf]; omega
    · have d2 : decide ((k : Int) < (n : Int)) = false := by simp; omega
      obtain rfl : k = n := by omega
      go_wp2_with fail
      go_ret
      exact ⟨rfl, rfl⟩
set_option maxHeartbeats 1000000 in
theorem refSum_any (seed : Int) (s : ByteArray) (hs : s.size ≤ 9223372036854775807) (w : World) : Calls Try.prog 117 #[.int .u64 seed, .string s] w fun e w' => e = .returned (.int .u64 (sumP seed s)) ∧ w = w' := by
  have hP : sumP seed s = sumN (bits BinOp.xor IntKind.u64 seed 14695981039346656037) s s.size := rfl
  have hok := sumN_ok _ (bits_ok BinOp.xor seed 14695981039346656037) s
  rw [hP]
  clear hP
  generalize hb : bits BinOp.xor IntKind.u64 seed 14695981039346656037 = b0 at *
  generalize hsz : s.size = n at *
  replace hok := Lib.hid hok
  go_enter Try.func117, Try.ntmps117
  go_wp2_with fail
  go_loop [5, 6] (fun v i => ∃ k : Nat, k ≤ n ∧ i = .int .i64 k ∧ v = .int .u64 (sumN b0 s k)) (fun _ i => n + 1 - (intOf i).toNat)
  case atStart => exact ⟨0, Nat.zero_le _, rfl, rfl⟩
  case round =>
    obtain ⟨k, hk, rfl, rfl⟩ := hrel
    by_cases hlt : k < n
    · have d2 : decide ((k : Int) < (n : Int)) = true := by simp; omega
      have hix := fun W => index_tb s k (by omega) W
      have hM := fun W => refMore_any (sumN b0 s k) (tb s k : Nat) (hok.out k) ⟨by omega, by have := tb_lt s k; omega⟩ W
      have hS : sumN b0 s (k + 1) = moreP (sumN b0 s k) (tb s k : Nat) := rfl
      generalize sumN b0 s k = x at *
      generalize tb s k = y at *
      rw [← hS] at hM
      replace hS := Lib.hid hS
      replace hM := Lib.hid hM
      go_wp2_with fail
      refine (hM.out _).mono ?_; rintro e w1 ⟨rfl, rfl⟩
      go_wp2_with fail
      go_round
      case rel => exact ⟨k + 1, by omega, by go_num, rfl⟩
      case measure => simp [intOf]; omega
    · have d2 : decide ((k : Int) < (n : Int)) = false := by simp; omega
      obtain rfl : k = n := by omega
      go_wp2_with fail
      go_ret
      exact ⟨rfl, rfl⟩
/-- The places of a way. -/
def placeP (n w i : Int) : Int := (n % w + i) % w
theorem rest64_any (n c : Int) (hn : 0 ≤ n ∧ n ≤ 18446744073709551615) (hc : 1 ≤ c ∧ c ≤ 64) (w : World) : Calls Try.prog 174 #[.int .u64 n, .int .u64 c] w fun e w' => e = .returned (.int .u64 (n % c)) ∧ w = w' := by
  have h1 := Int.ediv_mul_add_emod n c
  have h2 := Int.emod_nonneg n (b := c) (by omega)
  have h3 := Int.emod_lt_of_pos n (b := c) (by omega)
  have e1 : IntKind.u64.wrap (n / c * c) = n / c * c := IntWalk.u64_in _ (by
    have := Int.ediv_nonneg hn.1 (by omega : (0 : Int) ≤ c)
    have := Int.mul_nonneg this (by omega : (0 : Int) ≤ c)
    omega)
  have e2 : IntKind.u64.wrap (n - n / c * c) = n % c := by rw [show n - n / c * c = n % c by omega]; exact IntWalk.u64_in _ (by omega)
  clear h1 h2 h3
  go_enter Try.func174, Try.ntmps174
  go_wp2_with fail
  go_ret
  exact ⟨rfl, rfl⟩
theorem rest_any (n c : Int) (hn : 0 ≤ n ∧ n ≤ 1000) (hc : 1 ≤ c ∧ c ≤ 64) (w : World) : Calls Try.prog 166 #[.int .i64 n, .int .i64 c] w fun e w' => e = .returned (.int .i64 (n % c)) ∧ w = w' := by
  have h1 := Int.ediv_mul_add_emod n c
  have h2 := Int.emod_nonneg n (b := c) (by omega)
  have h3 := Int.emod_lt_of_pos n (b := c) (by omega)
  have e0 : IntKind.i64.wrap (n.tdiv c) = n / c := by
    rw [Int.tdiv_eq_ediv_of_nonneg hn.1]
    exact IntWalk.i64_in _ (by
      have := Int.ediv_nonneg hn.1 (by omega : (0 : Int) ≤ c)
      have := Int.ediv_le_self c hn.1
      omega)
  have e1 : IntKind.i64.wrap (n / c * c) = n / c * c := IntWalk.i64_in _ (by omega)
  have e2 : IntKind.i64.wrap (n - n / c * c) = n % c := by rw [show n - n / c * c = n % c by omega]; exact IntWalk.i64_in _ (by omega)
  clear h1 h2 h3
  go_enter Try.func166, Try.ntmps166
  go_wp2_with fail
  go_ret
  exact ⟨rfl, rfl⟩
theorem start_any (n c : Int) (hn : 0 ≤ n ∧ n ≤ 18446744073709551615) (hc : 1 ≤ c ∧ c ≤ 64) (w : World) : Calls Try.prog 165 #[.int .u64 n, .int .i64 c] w fun e w' => e = .returned (.int .i64 (n % c)) ∧ w = w' := by
  have hR := fun W => rest64_any n c hn hc W
  have h2 := Int.emod_nonneg n (b := c) (by omega)
  have h3 := Int.emod_lt_of_pos n (b := c) (by omega)
  generalize n % c = r at *
  have d0 : decide (c < 1) = false := by simp; omega
  have e1 : IntKind.u64.wrap c = c := IntWalk.u64_in _ (by omega)
  have e2 : IntKind.i64.wrap r = r := IntWalk.i64_in _ (by omega)
  replace hR := Lib.hid hR
  go_enter Try.func165, Try.ntmps165
  go_wp2_with fail
  refine (hR.out _).mono ?_; rintro e w1 ⟨rfl, rfl⟩
  go_wp2_with fail
  go_ret
  exact ⟨rfl, rfl⟩
theorem refStart_any (n c : Int) (hn : 0 ≤ n ∧ n ≤ 18446744073709551615) (hc : 1 ≤ c ∧ c ≤ 64) (w : World) : Calls Try.prog 147 #[.int .u64 n, .int .i64 c] w fun e w' => e = .returned (.int .i64 (n % c)) ∧ w = w' := by
  have h2 := Int.emod_nonneg n (b := c) (by omega)
  have h3 := Int.emod_lt_of_pos n (b := c) (by omega)
  have d0 : decide (c < 1) = false := by simp; omega
  have e1 : IntKind.u64.wrap c = c := IntWalk.u64_in _ (by omega)
  have e2 : IntKind.i64.wrap (n % c) = n % c := IntWalk.i64_in _ (by omega)
  have e3 : n.tmod c = n % c := Int.tmod_eq_emod_of_nonneg hn.1
  have e4 : IntKind.u64.wrap (n % c) = n % c := IntWalk.u64_in _ (by omega)
  have p0 : ¬ c = 0 := by omega
  have p1 : ¬ c = -1 := by omega
  have pp : 0 < c := by omega
  have pz : (c == 0) = false := by rw [beq_eq_false_iff_ne]; omega
  go_enter Try.func147, Try.ntmps147
  go_wp2_with fail
  go_ret
  exact ⟨rfl, rfl⟩
theorem placeP_ok (n c i : Int) (hc : 1 ≤ c) : 0 ≤ placeP n c i ∧ placeP n c i < c := ⟨Int.emod_nonneg _ (by omega), Int.emod_lt_of_pos _ (by omega)⟩
theorem place_any (n c i : Int) (hn : 0 ≤ n ∧ n ≤ 18446744073709551615) (hc : 1 ≤ c ∧ c ≤ 64) (hi : 0 ≤ i ∧ i < c) (w : World) : Calls Try.prog 144 #[.int .u64 n, .int .i64 c, .int .i64 i] w fun e w' => e = .returned (.int .i64 (placeP n c i)) ∧ w = w' := by
  have hS := fun W => start_any n c hn hc W
  have h2 := Int.emod_nonneg n (b := c) (by omega)
  have h3 := Int.emod_lt_of_pos n (b := c) (by omega)
  have hP : placeP n c i = (n % c + i) % c := rfl
  rw [hP]
  clear hP
  generalize n % c = r at *
  have d0 : decide (i < 0) = false := by simp; omega
  have d1 : decide (c ≤ i) = false := by simp; omega
  have e1 : IntKind.i64.wrap (c - r) = c - r := IntWalk.i64_in _ (by omega)
  replace hS := Lib.hid hS
  by_cases hl : i < c - r
  · have d2 : decide (i < c - r) = true := by simp; omega
    have e2 : IntKind.i64.wrap (c - (c - r)) = r := by rw [show c - (c - r) = r by omega]; exact IntWalk.i64_in _ (by omega)
    have e3 : IntKind.i64.wrap (r + i) = r + i := IntWalk.i64_in _ (by omega)
    have e4 : (r + i) % c = r + i := Int.emod_eq_of_lt (by omega) (by omega)
    rw [e4]
    clear e4
    go_enter Try.func144, Try.ntmps144
    go_wp2_with fail
    refine (hS.out _).mono ?_; rintro e w1 ⟨rfl, rfl⟩
    go_wp2_with fail
    go_ret
    exact ⟨rfl, rfl⟩
  · have d2 : decide (i < c - r) = false := by simp; omega
    have e2 : IntKind.i64.wrap (i - (c - r)) = i - (c - r) := IntWalk.i64_in _ (by omega)
    have hR := fun W => rest_any (i - (c - r)) c (by omega) hc W
    have e4 : (r + i) % c = (i - (c - r)) % c := by rw [show i - (c - r) = r + i - c by omega, Int.sub_emod_right]
    rw [e4]
    clear e4
    replace hR := Lib.hid hR
    go_enter Try.func144, Try.ntmps144
    go_wp2_with fail
    refine (hS.out _).mono ?_; rintro e w1 ⟨rfl, rfl⟩
    go_wp2_with fail
    refine (hR.out _).mono ?_; rintro e w1 ⟨rfl, rfl⟩
    go_wp2_with fail
    go_ret
    exact ⟨rfl, rfl⟩
theorem refPlace_any (n c i : Int) (hn : 0 ≤ n ∧ n ≤ 18446744073709551615) (hc : 1 ≤ c ∧ c ≤ 64) (hi : 0 ≤ i ∧ i < c) (w : World) : Calls Try.prog 118 #[.int .u64 n, .int .i64 c, .int .i64 i] w fun e w' => e = .returned (.int .i64 (placeP n c i)) ∧ w = w' := by
  have hS := fun W => refStart_any n c hn hc W
  have h2 := Int.emod_nonneg n (b := c) (by omega)
  have h3 := Int.emod_lt_of_pos n (b := c) (by omega)
  have hP : placeP n c i = (n % c + i) % c := rfl
  rw [hP]
  clear hP
  generalize n % c = r at *
  have h4 := Int.emod_nonneg (r + i) (b := c) (by omega)
  have h5 := Int.emod_lt_of_pos (r + i) (b := c) (by omega)
  have d0 : decide (i < 0) = false := by simp; omega
  have d1 : decide (c ≤ i) = false := by simp; omega
  have e1 : IntKind.u64.wrap c = c := IntWalk.u64_in _ (by omega)
  have e2 : IntKind.u64.wrap r = r := IntWalk.u64_in _ (by omega)
  have e3 : IntKind.u64.wrap i = i := IntWalk.u64_in _ (by omega)
  have e4 : IntKind.u64.wrap (r + i) = r + i := IntWalk.u64_in _ (by omega)
  have e5 : (r + i).tmod c = (r + i) % c := Int.tmod_eq_emod_of_nonneg (by omega)
  have e6 : IntKind.u64.wrap ((r + i) % c) = (r + i) % c := IntWalk.u64_in _ (by omega)
  have e7 : IntKind.i64.wrap ((r + i) % c) = (r + i) % c := IntWalk.i64_in _ (by omega)
  have p0 : ¬ c = 0 := by omega
  have p1 : ¬ c = -1 := by omega
  have pp : 0 < c := by omega
  have pz : (c == 0) = false := by rw [beq_eq_false_iff_ne]; omega
  replace hS := Lib.hid hS
  go_enter Try.func118, Try.ntmps118
  go_wp2_with fail
  refine (hS.out _).mono ?_; rintro e w1 ⟨rfl, rfl⟩
  go_wp2_with fail
  go_ret
  exact ⟨rfl, rfl⟩
end Go.Proofs.Ytfelkkbgbgnpaaa
