/-
  TakeInt, the document's; the examples. No condition.
-/
import Derived.Test.YtpkkjoiglemlgaaGreatDoorSeptet4
namespace Go.Proofs.YtpkkjoiglemlgaaGreatDoor
set_option linter.unusedVariables false
open Go.RowKit Go.Extern.Stop Go.Stop Go.Extern Go.ChangeShapes

def zi (n : Nat) : Int := if n % 2 = 1 then -((n / 2 : Nat) : Int) - 1 else ((n / 2 : Nat) : Int)
theorem ldK_le (f : Nat → Nat) (n : Nat) : ldK f n ≤ 10 := by
  unfold ldK
  cases h : (List.range 10).find? fun k => decide (n ≤ k) || decide (f k < 128) with
  | none => simp
  | some k =>
    have := List.mem_of_find?_eq_some h
    simp at this
    simp
    omega
/-- What a number that was taken is. -/
theorem tk_ok {s : ByteArray} {p : Int} (h : (tk s p).2.2 = 0) : ∃ a k : Nat, p = a ∧ a + k < s.size ∧ k ≤ 9 ∧ ldK (tkf s a) (s.size - a) = k ∧ tkc (tkf s a) (s.size - a) = 0 ∧ tk s p = (psum (tkf s a) (k + 1), (a : Int) + k + 1, 0) ∧ psum (tkf s a) (k + 1) < 18446744073709551616 := by
  by_cases hout : p < 0 ∨ (s.size : Int) < p
  · unfold tk at h
    rw [if_pos hout] at h
    exact absurd h (by decide)
  · obtain ⟨a, rfl⟩ : ∃ a : Nat, p = a := ⟨p.toNat, by omega⟩
    have ha : a ≤ s.size := by omega
    by_cases hc : tkc (tkf s a) (s.size - a) = 0
    · have hle := ldK_le (tkf s a) (s.size - a)
      have h2 := tk_in ha
      rw [if_pos hc] at h2
      have hc2 := hc
      unfold tkc at hc2
      have h10 : ldK (tkf s a) (s.size - a) ≠ 10 := fun e => by rw [if_pos e] at hc2; cases hc2
      rw [if_neg h10] at hc2
      have hn : ¬ s.size - a ≤ ldK (tkf s a) (s.size - a) := fun e => by rw [if_pos e] at hc2; cases hc2
      rw [if_neg hn] at hc2
      have h9 : ¬ (ldK (tkf s a) (s.size - a) = 9 ∧ 1 < tkf s a 9) := fun e => by rw [if_pos e] at hc2; cases hc2
      refine ⟨a, ldK (tkf s a) (s.size - a), rfl, by omega, by omega, rfl, hc, ?_, psum_bound _ (by omega)⟩
      rw [h2]
      simp [Int.add_assoc]
    · rw [tk_bad ha rfl hc] at h
      exact absurd h hc
theorem u64_and_one (a : Nat) (ha : a < 18446744073709551616) : bits .and .u64 (a : Int) 1 = ((a % 2 : Nat) : Int) := by
  have e1 : (BitVec.ofInt 64 (1 : Int)).toNat = 1 := by decide +kernel
  show IntKind.u64.wrap ((BitVec.ofInt 64 (a : Int) &&& BitVec.ofInt 64 (1 : Int)).toNat : Int) = _
  rw [BitVec.toNat_and, ofInt_u64 a ha, e1, Nat.and_one_is_mod, IntKind.wrap_u64]
  omega
theorem i64_xor_zero (a : Nat) (ha : a < 9223372036854775808) : bits .xor .i64 (a : Int) 0 = (a : Int) := by
  have e1 : BitVec.ofInt 64 (0 : Int) = 0#64 := by decide +kernel
  show IntKind.i64.wrap ((BitVec.ofInt 64 (a : Int) ^^^ BitVec.ofInt 64 (0 : Int)).toNat : Int) = _
  rw [e1, BitVec.xor_zero, ofInt_i64 a ha, IntKind.wrap_i64]
  omega
theorem i64_xor_ones (a : Nat) (ha : a < 9223372036854775808) : bits .xor .i64 (a : Int) (-1) = -(a : Int) - 1 := by
  have e1 : BitVec.ofInt 64 (-1 : Int) = BitVec.allOnes 64 := by decide +kernel
  show IntKind.i64.wrap ((BitVec.ofInt 64 (a : Int) ^^^ BitVec.ofInt 64 (-1 : Int)).toNat : Int) = _
  rw [e1, BitVec.xor_allOnes, BitVec.toNat_not, ofInt_i64 a ha, IntKind.wrap_i64]
  omega
theorem zag {n : Nat} (hn : n < 18446744073709551616) : bits .xor .i64 ((n / 2 : Nat) : Int) (-((n % 2 : Nat) : Int)) = zi n := by
  unfold zi
  by_cases h : n % 2 = 1
  · rw [if_pos h, h]
    exact i64_xor_ones _ (by omega)
  · have h0 : n % 2 = 0 := by omega
    rw [if_neg h, h0]
    exact i64_xor_zero _ (by omega)
/-- TakeInt's answer. -/
def tki (s : ByteArray) (p : Int) : Int × Int × Int := if (tk s p).2.2 = 0 then (zi (tk s p).1, (tk s p).2.1, 0) else (0, 0, (tk s p).2.2)
theorem takeInt_any {w : World} {sv : Nat → Addr} (S : Sent w sv) (s : ByteArray) (p : Int) (hs : s.size ≤ 1000000) :
    Calls Tryz.prog 139 #[.string s, .int .i64 p] w fun e w' => ∃ v, e = .returned (.tuple #[.int .i64 (tki s p).1, .int .i64 (tki s p).2.1, v]) ∧ TkErr w' sv v p (tki s p).2.2 ∧ Below w.heap.size w w' := by
  have T := take_any S s p hs
  replace T := Lib.hid T
  unfold tki
  by_cases hc : (tk s p).2.2 = 0
  · obtain ⟨a, k, rfl, _, _, _, _, htk, hlt⟩ := tk_ok hc
    rw [if_pos hc]
    rw [htk] at T ⊢
    clear hc
    simp only at T ⊢
    generalize psum (tkf s a) (k + 1) = n at *
    have hz : bits .xor .i64 ((n : Int) / 2) (-((n : Int) % 2)) = zi n := by have h := zag hlt; push_cast at h; exact h
    have ha : bits .and .u64 (n : Int) 1 = (n : Int) % 2 := by have h := u64_and_one n hlt; push_cast at h; exact h
    replace htk := Lib.hid htk
    go_enter Tryz.func139, Tryz.ntmps139
    go_wp2_with fail
    refine (T.out).mono ?_; rintro e w1 ⟨v, rfl, hv, hb⟩
    obtain rfl : v = .nilIface := by
      rcases hv with ⟨_, h⟩ | ⟨h, _⟩
      · exact h
      · exact absurd rfl h
    clear hv
    go_wp2_with fail
    refine bodyPost_ret (v := .tuple #[.int .i64 (zi n), .int .i64 ((a : Int) + k + 1), .nilIface]) (by simp [results, Tryz.results139, go_sem]) rfl ⟨_, rfl, .inl ⟨rfl, rfl⟩, hb⟩
  · rw [if_neg hc]
    have h0 : (tk s p).1 = 0 ∧ (tk s p).2.1 = 0 := by
      unfold tk at hc ⊢
      split
      · exact ⟨rfl, rfl⟩
      · split
        · rename_i h1 h2
          rw [if_neg h1, if_pos h2] at hc
          exact absurd rfl hc
        · exact ⟨rfl, rfl⟩
    replace h0 := Lib.hid h0
    replace hc := Lib.hid hc
    go_enter Tryz.func139, Tryz.ntmps139
    go_wp2_with fail
    refine (T.out).mono ?_; rintro e w1 ⟨v, rfl, hv, hb⟩
    have hv2 : ErrIs w1 sv v [p] (sIdx (tk s p).2.2) := by
      rcases hv with ⟨h, _⟩ | ⟨_, h⟩
      · exact absurd h hc.out
      · exact h
    obtain ⟨t, u, rfl⟩ := hv2.iface
    replace hv2 := Lib.hid hv2
    clear hv
    go_wp2_with fail
    refine bodyPost_ret (v := .tuple #[.int .i64 0, .int .i64 0, .iface t u]) (by simp [results, Tryz.results139, go_sem]) rfl ⟨_, rfl, .inr ⟨hc.out, hv2.out⟩, hb⟩
theorem refTakeInt_any (w : World) (s : ByteArray) (p : Int) (hs : s.size ≤ 1000000) :
    Calls Tryz.prog 112 #[.string s, .int .i64 p] w fun e w' => e = .returned (.tuple #[.int .i64 (tki s p).1, .int .i64 (tki s p).2.1, .int .i64 (tki s p).2.2]) ∧ w = w' := by
  have T := refTake_any w s p hs
  replace T := Lib.hid T
  unfold tki
  by_cases hc : (tk s p).2.2 = 0
  · obtain ⟨a, k, rfl, hk1, hk2, _, _, htk, hlt⟩ := tk_ok hc
    rw [if_pos hc]
    rw [htk] at T ⊢
    clear hc
    simp only at T ⊢
    generalize psum (tkf s a) (k + 1) = n at *
    replace htk := Lib.hid htk
    by_cases hodd : n % 2 = 1
    · have hz : zi n = -((n : Int) / 2) - 1 := by unfold zi; rw [if_pos hodd]; push_cast; rfl
      have hm : (n : Int) % 2 = 1 := by omega
      rw [hz]
      replace hz := Lib.hid hz
      go_enter Tryz.func112, Tryz.ntmps112
      go_wp2_with fail
      refine (T.out).mono ?_; rintro e w1 ⟨rfl, rfl⟩
      go_wp2_with fail
      exact bodyPost_ret (v := .tuple #[.int .i64 (-((n : Int) / 2) - 1), .int .i64 ((a : Int) + k + 1), .int .i64 0]) (by simp [results, Tryz.results112, go_sem]) rfl ⟨rfl, rfl⟩
    · have hz : zi n = (n : Int) / 2 := by unfold zi; rw [if_neg hodd]; push_cast; rfl
      have hm : (n : Int) % 2 = 0 := by omega
      rw [hz]
      replace hz := Lib.hid hz
      go_enter Tryz.func112, Tryz.ntmps112
      go_wp2_with fail
      refine (T.out).mono ?_; rintro e w1 ⟨rfl, rfl⟩
      go_wp2_with fail
      exact bodyPost_ret (v := .tuple #[.int .i64 ((n : Int) / 2), .int .i64 ((a : Int) + k + 1), .int .i64 0]) (by simp [results, Tryz.results112, go_sem]) rfl ⟨rfl, rfl⟩
  · rw [if_neg hc]
    generalize (tk s p).2.2 = c at *
    go_enter Tryz.func112, Tryz.ntmps112
    go_wp2_with fail
    refine (T.out).mono ?_; rintro e w1 ⟨rfl, rfl⟩
    go_wp2_with fail
    exact bodyPost_ret (v := .tuple #[.int .i64 0, .int .i64 0, .int .i64 c]) (by simp [results, Tryz.results112, go_sem]) rfl ⟨rfl, rfl⟩

/-! ### the examples -/
end Go.Proofs.YtpkkjoiglemlgaaGreatDoor
