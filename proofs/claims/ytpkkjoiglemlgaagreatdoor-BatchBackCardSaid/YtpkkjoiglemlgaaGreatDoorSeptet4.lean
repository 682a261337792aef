/-
  The document's Take; TakeInt, TakeText. No condition.
-/
import Derived.Test.YtpkkjoiglemlgaaGreatDoorSeptet3
import Derived.Test.YtpkkjoiglemlgaaGreatDoorFr
namespace Go.Proofs.YtpkkjoiglemlgaaGreatDoor
set_option linter.unusedVariables false
open Go.RowKit Go.Extern.Stop Go.Stop Go.Extern Go.ChangeShapes

theorem psum_bound (f : Nat → Nat) {k : Nat} (hk : k ≤ 8 ∨ (k = 9 ∧ f 9 ≤ 1)) : psum f (k + 1) < 18446744073709551616 := by
  rcases hk with hk | ⟨rfl, hf⟩
  · exact Nat.lt_of_lt_of_le (psum_lt f (k + 1)) (Nat.le_trans (Nat.pow_le_pow_right (by decide) (show k + 1 ≤ 9 by omega)) (by decide))
  · have h1 := psum_lt f 9
    have h2 : f 9 % 128 * 128 ^ 9 ≤ 1 * 128 ^ 9 := Nat.mul_le_mul_right _ (by omega)
    have h3 : (128 : Nat) ^ 9 = 9223372036854775808 := by decide
    rw [psum]
    omega
set_option maxRecDepth 100000 in
set_option maxHeartbeats 1000000 in
theorem refTake_any (w : World) (s : ByteArray) (p : Int) (hs : s.size ≤ 1000000) :
    Calls Tryz.prog 47 #[.string s, .int .i64 p] w fun e w' => e = .returned (.tuple #[.int .u64 (tk s p).1, .int .i64 (tk s p).2.1, .int .i64 (tk s p).2.2]) ∧ w = w' := by
  by_cases hout : p < 0 ∨ (s.size : Int) < p
  · have htk : tk s p = (0, 0, 4) := by unfold tk; rw [if_pos hout]
    rw [htk]
    replace htk := Lib.hid htk
    rcases hout with hp | hp
    all_goals
      go_enter Tryz.func47, Tryz.ntmps47
      go_wp2_with fail
      exact bodyPost_ret (v := .tuple #[.int .u64 0, .int .i64 0, .int .i64 4]) (by simp [results, Tryz.results47, go_sem]) rfl ⟨rfl, rfl⟩
  · obtain ⟨a, rfl⟩ : ∃ a : Nat, p = a := ⟨p.toNat, by omega⟩
    have ha : a ≤ s.size := by omega
    clear hout
    have bad : ∀ c : Int, c ≠ 0 → tkc (tkf s a) (s.size - a) = c → Ending.returned (.tuple #[.int .u64 0, .int .i64 0, .int .i64 c]) = .returned (.tuple #[.int .u64 (tk s a).1, .int .i64 (tk s a).2.1, .int .i64 (tk s a).2.2]) := by
      intro c h0 hc
      rw [tk_bad ha hc h0]
      rfl
    have good : ∀ k : Nat, tkc (tkf s a) (s.size - a) = 0 → ldK (tkf s a) (s.size - a) = k →
        Ending.returned (.tuple #[.int .u64 (psum (tkf s a) (k + 1) : Nat), .int .i64 ((a : Int) + (k : Nat) + 1), .int .i64 0]) = .returned (.tuple #[.int .u64 (tk s a).1, .int .i64 (tk s a).2.1, .int .i64 (tk s a).2.2]) := by
      intro k hc hk
      rw [tk_in ha, if_pos hc, hk]
      simp [Int.add_assoc]
    replace good := Lib.hid good
    have hd1 : decide (s.size < a) = false := decide_eq_false (by omega)
    have hd2 : decide ((a : Int) < 0) = false := decide_eq_false (by omega)
    replace bad := Lib.hid bad
    go_enter Tryz.func47, Tryz.ntmps47
    go_wp2_with fail
    go_loopw [7] (fun i wr => wr = w ∧ ∃ k : Nat, k ≤ 10 ∧ i = .int .i64 k ∧ k ≤ s.size - a ∧ ∀ j, j < k → j < s.size - a ∧ 128 ≤ tkf s a j) (fun i _ => 20 - (intOf i).toNat)
    case atStart => exact ⟨rfl, 0, by omega, rfl, by omega, fun j hj => by omega⟩
    case round =>
      obtain ⟨rfl, k, hk10, rfl, hkn, hj⟩ := hrel
      replace hj := Lib.hid hj
      by_cases h10 : k = 10
      · have hcode : tkc (tkf s a) (s.size - a) = 3 := by
          have : ldK (tkf s a) (s.size - a) = 10 := ldK_ten fun j h => hj.out j (by omega)
          unfold tkc
          rw [if_pos this]
        replace hcode := Lib.hid hcode
        go_wp2_with fail
        exact bodyPost_ret (v := .tuple #[.int .u64 0, .int .i64 0, .int .i64 3]) (by simp [results, Tryz.results47, go_sem]) rfl ⟨bad.out 3 (by decide) hcode.out, rfl⟩
      · by_cases hend : k < s.size - a
        · have hsb : ∀ h : a + k < s.size, (s[a + k]'h).toNat = sb s (a + k) := fun h => sb_eq h
          have hlt := sb_lt s (a + k)
          generalize hc : sb s (a + k) = c at *
          have hfk : tkf s a k = c := hc
          replace hc := Lib.hid hc
          replace hfk := Lib.hid hfk
          by_cases h128 : 128 ≤ c
          · go_wp2_with fail
            go_roundw
            case rel =>
              have hnext : ∀ j, j < k + 1 → j < s.size - a ∧ 128 ≤ tkf s a j := fun j h => by
                rcases Nat.lt_or_ge j k with h1 | h1
                · exact hj.out j h1
                · obtain rfl : j = k := by omega
                  exact ⟨hend, by rw [hfk.out]; exact h128⟩
              first
                | exact ⟨rfl, k + 1, by omega, by go_num, by omega, hnext⟩
                | exact ⟨trivial, k + 1, by omega, by go_num, by omega, hnext⟩
                | ((repeat apply Exists.intro); refine ⟨?_, rfl⟩; exact ⟨trivial, k + 1, by omega, by go_num, by omega, hnext⟩)
            case measure => simp [intOf]; omega
          · have hld : ldK (tkf s a) (s.size - a) = k := ldK_at (by omega) hj.out (.inr (by rw [hfk.out]; omega))
            replace hld := Lib.hid hld
            by_cases h9 : k = 9
            · by_cases hbig : 1 < c
              · have hcode : tkc (tkf s a) (s.size - a) = 3 := by
                  unfold tkc
                  rw [hld.out, if_neg (by omega), if_neg (by omega), if_pos ⟨h9, by rw [← h9, hfk.out]; exact hbig⟩]
                subst h9
                replace hcode := Lib.hid hcode
                go_wp2_with fail
                exact bodyPost_ret (v := .tuple #[.int .u64 0, .int .i64 0, .int .i64 3]) (by simp [results, Tryz.results47, go_sem]) rfl ⟨bad.out 3 (by decide) hcode.out, rfl⟩
              · by_cases hc0 : c = 0
                · have hcode : tkc (tkf s a) (s.size - a) = 1 := by
                    unfold tkc
                    rw [hld.out, if_neg (by omega), if_neg (by omega), if_neg (fun h => by have h1 := hfk.out; have h2 := h.1; have h3 := h.2; rw [h2] at h1; omega), if_pos ⟨by omega, by rw [hfk.out]; omega⟩]
                  subst h9
                  replace hcode := Lib.hid hcode
                  go_wp2_with fail
                  exact bodyPost_ret (v := .tuple #[.int .u64 0, .int .i64 0, .int .i64 1]) (by simp [results, Tryz.results47, go_sem]) rfl ⟨bad.out 1 (by decide) hcode.out, rfl⟩
                · have hcode : tkc (tkf s a) (s.size - a) = 0 ∧ ldK (tkf s a) (s.size - a) = k := by
                    refine ⟨?_, hld.out⟩
                    unfold tkc
                    rw [hld.out, if_neg (by omega), if_neg (by omega), if_neg (fun h => by have h1 := hfk.out; have h2 := h.1; have h3 := h.2; rw [h2] at h1; omega), if_neg (fun h => by have h1 := hfk.out; have h2 := h.1; have h3 := h.2; omega)]
                  have hbound : psum (tkf s a) (9 + 1) < 18446744073709551616 := psum_bound _ (.inr ⟨rfl, by have h1 := hfk.out; rw [h9] at h1; omega⟩)
                  replace hcode := Lib.hid hcode
                  subst h9
                  have hd3 : ((9 : Int) == (s.size : Int) - a) = false := by rw [beq_eq_false_iff_ne]; omega
                  have hd5 : decide (128 ≤ (c : Int)) = false := decide_eq_false (by omega)
                  have hps : psum (tkf s a) (9 + 1) < 18446744073709551616 := hbound
                  replace hps := Lib.hid hps
                  go_wp2_with fail
                  go_loopw [8, 9] (fun v i wq => wq = wr ∧ ∃ m x : Nat, m ≤ 9 + 1 ∧ v = .int .u64 x ∧ i = .int .i64 ((m : Int) - 1) ∧ x * 128 ^ m + psum (tkf s a) m = psum (tkf s a) (9 + 1)) (fun _ i _ => (intOf i + 1).toNat)
                  case atStart => exact ⟨rfl, 9 + 1, 0, by omega, rfl, by go_num, by simp⟩
                  case round =>
                    obtain ⟨rfl, m, x, hm, rfl, rfl, hx⟩ := hrel
                    rcases m with _ | m
                    · have hxx : x = psum (tkf s a) (9 + 1) := by simpa [psum] using hx
                      replace hx := Lib.hid hx
                      replace hxx := Lib.hid hxx
                      go_wp2_with fail
                      refine bodyPost_ret (v := .tuple #[.int .u64 (psum (tkf s a) (9 + 1) : Nat), .int .i64 ((a : Int) + (9 : Nat) + 1), .int .i64 0]) (by simp [results, Tryz.results47, go_sem, hxx.out]) rfl ⟨good.out _ hcode.out.1 hcode.out.2, rfl⟩
                    · have e1 : (((m + 1 : Nat) : Int) - 1) = m := by omega
                      rw [e1]
                      have hmn : m < s.size - a := by
                        rcases Nat.lt_or_ge m 9 with h1 | h1
                        · exact (hj.out m h1).1
                        · omega
                      have hlt2 := sb_lt s (a + m)
                      have hsb2 : ∀ h : a + m < s.size, (s[a + m]'h).toNat = sb s (a + m) := fun h => sb_eq h
                      have hnx : (128 * x + sb s (a + m) % 128) * 128 ^ m + psum (tkf s a) m = psum (tkf s a) (9 + 1) := by
                        rw [← hx, psum, Nat.pow_succ]
                        show _ = _ + (_ + sb s (a + m) % 128 * 128 ^ m)
                        rw [Nat.add_mul, Nat.mul_comm 128 x, Nat.mul_assoc, Nat.mul_comm 128 (128 ^ m)]
                        omega
                      have hov : 128 * x + sb s (a + m) % 128 < 18446744073709551616 := by
                        have h1 := hps.out
                        have h2 : 128 * x + sb s (a + m) % 128 ≤ (128 * x + sb s (a + m) % 128) * 128 ^ m := Nat.le_mul_of_pos_right _ (Nat.pow_pos (by decide))
                        omega
                      generalize sb s (a + m) = c2 at *
                      replace hnx := Lib.hid hnx
                      replace hx := Lib.hid hx
                      go_wp2_with fail
                      go_roundw
                      case rel => first | exact ⟨trivial, m, 128 * x + c2 % 128, by omega, by go_num, by go_num, hnx.out⟩ | ((repeat apply Exists.intro); refine ⟨?rr, ?ff⟩; (case ff => first | exact rfl | (apply act_eq; apply slots_eq; repeat' (first | apply cons_eq | exact rfl | (apply congrArg Value.bool; first | (simp; done) | (simp; omega)) | (simp [*]; done)))); (case rr => exact ⟨trivial, m, 128 * x + c2 % 128, by omega, by go_num, by go_num, hnx.out⟩))
                      case measure => (first | (simp [intOf]; done) | (simp [intOf]; omega))
            · by_cases hf : c = 0 ∧ 0 < k
              · have hcode : tkc (tkf s a) (s.size - a) = 1 := by
                  unfold tkc
                  rw [hld.out, if_neg (by omega), if_neg (by omega), if_neg (fun h => by have h2 := h.1; omega), if_pos ⟨by omega, by rw [hfk.out]; omega⟩]
                obtain ⟨hc0, hk0⟩ := hf
                replace hcode := Lib.hid hcode
                go_wp2_with fail
                exact bodyPost_ret (v := .tuple #[.int .u64 0, .int .i64 0, .int .i64 1]) (by simp [results, Tryz.results47, go_sem]) rfl ⟨bad.out 1 (by decide) hcode.out, rfl⟩
              · have hcode : tkc (tkf s a) (s.size - a) = 0 ∧ ldK (tkf s a) (s.size - a) = k := by
                  refine ⟨?_, hld.out⟩
                  unfold tkc
                  rw [hld.out, if_neg (by omega), if_neg (by omega), if_neg (fun h => by have h2 := h.1; omega), if_neg (fun h => by have h1 := hfk.out; have h2 := h.1; have h3 := h.2; omega)]
                have hbound : psum (tkf s a) (k + 1) < 18446744073709551616 := psum_bound _ (.inl (by omega))
                replace hcode := Lib.hid hcode
                have hd3 : ((k : Int) == (s.size : Int) - a) = false := by rw [beq_eq_false_iff_ne]; omega
                have hd4 : ((k : Int) == 9) = false := by rw [beq_eq_false_iff_ne]; omega
                have hd5 : decide (128 ≤ (c : Int)) = false := decide_eq_false (by omega)
                have hf2 : (0 < c ∧ 0 < k) ∨ k < 1 := by omega
                rcases hf2 with ⟨hf2, hf3⟩ | hf2
                all_goals
                  have hps : psum (tkf s a) (k + 1) < 18446744073709551616 := hbound
                  replace hps := Lib.hid hps
                  go_wp2_with fail
                  go_loopw [8, 9] (fun v i wq => wq = wr ∧ ∃ m x : Nat, m ≤ k + 1 ∧ v = .int .u64 x ∧ i = .int .i64 ((m : Int) - 1) ∧ x * 128 ^ m + psum (tkf s a) m = psum (tkf s a) (k + 1)) (fun _ i _ => (intOf i + 1).toNat)
                  case atStart => exact ⟨rfl, k + 1, 0, by omega, rfl, by go_num, by simp⟩
                  case round =>
                    obtain ⟨rfl, m, x, hm, rfl, rfl, hx⟩ := hrel
                    rcases m with _ | m
                    · have hxx : x = psum (tkf s a) (k + 1) := by simpa [psum] using hx
                      replace hx := Lib.hid hx
                      replace hxx := Lib.hid hxx
                      go_wp2_with fail
                      refine bodyPost_ret (v := .tuple #[.int .u64 (psum (tkf s a) (k + 1) : Nat), .int .i64 ((a : Int) + (k : Nat) + 1), .int .i64 0]) (by simp [results, Tryz.results47, go_sem, hxx.out]) rfl ⟨good.out _ hcode.out.1 hcode.out.2, rfl⟩
                    · have e1 : (((m + 1 : Nat) : Int) - 1) = m := by omega
                      rw [e1]
                      have hmn : m < s.size - a := by
                        rcases Nat.lt_or_ge m k with h1 | h1
                        · exact (hj.out m h1).1
                        · omega
                      have hlt2 := sb_lt s (a + m)
                      have hsb2 : ∀ h : a + m < s.size, (s[a + m]'h).toNat = sb s (a + m) := fun h => sb_eq h
                      have hnx : (128 * x + sb s (a + m) % 128) * 128 ^ m + psum (tkf s a) m = psum (tkf s a) (k + 1) := by
                        rw [← hx, psum, Nat.pow_succ]
                        show _ = _ + (_ + sb s (a + m) % 128 * 128 ^ m)
                        rw [Nat.add_mul, Nat.mul_comm 128 x, Nat.mul_assoc, Nat.mul_comm 128 (128 ^ m)]
                        omega
                      have hov : 128 * x + sb s (a + m) % 128 < 18446744073709551616 := by
                        have h1 := hps.out
                        have h2 : 128 * x + sb s (a + m) % 128 ≤ (128 * x + sb s (a + m) % 128) * 128 ^ m := Nat.le_mul_of_pos_right _ (Nat.pow_pos (by decide))
                        omega
                      generalize sb s (a + m) = c2 at *
                      replace hnx := Lib.hid hnx
                      replace hx := Lib.hid hx
                      go_wp2_with fail
                      go_roundw
                      case rel => first | exact ⟨trivial, m, 128 * x + c2 % 128, by omega, by go_num, by go_num, hnx.out⟩ | ((repeat apply Exists.intro); refine ⟨?rr, ?ff⟩; (case ff => first | exact rfl | (apply act_eq; apply slots_eq; repeat' (first | apply cons_eq | exact rfl | (apply congrArg Value.bool; first | (simp; done) | (simp; omega)) | (simp [*]; done)))); (case rr => exact ⟨trivial, m, 128 * x + c2 % 128, by omega, by go_num, by go_num, hnx.out⟩))
                      case measure => (first | (simp [intOf]; done) | (simp [intOf]; omega))
        · have hcode : tkc (tkf s a) (s.size - a) = 2 := by
            have : ldK (tkf s a) (s.size - a) = k := ldK_at (by omega) hj.out (.inl (by omega))
            unfold tkc
            rw [this, if_neg (by omega), if_pos (by omega)]
          replace hcode := Lib.hid hcode
          go_wp2_with fail
          exact bodyPost_ret (v := .tuple #[.int .u64 0, .int .i64 0, .int .i64 2]) (by simp [results, Tryz.results47, go_sem]) rfl ⟨bad.out 2 (by decide) hcode.out, rfl⟩
end Go.Proofs.YtpkkjoiglemlgaaGreatDoor
