/-
  Package septet: Take; the document's. No condition.
-/
import Derived.Test.YtpkkjoiglemlgaaGreatDoorSeptet2
import Derived.WalkMore
namespace Go.Proofs.YtpkkjoiglemlgaaGreatDoor
set_option linter.unusedVariables false
open Go.RowKit Go.Extern.Stop Go.Stop Go.Extern Go.ChangeShapes

/-- A text's byte. -/
@[irreducible] def sb (s : ByteArray) (i : Nat) : Nat := if h : i < s.size then s[i].toNat else 0
theorem sb_lt (s : ByteArray) (i : Nat) : sb s i < 256 := by
  unfold sb
  split
  · exact UInt8.toNat_lt _
  · omega
theorem sb_eq {s : ByteArray} {i : Nat} (h : i < s.size) : s[i].toNat = sb s i := by unfold sb; rw [dif_pos h]
theorem index_sb (s : ByteArray) (i : Nat) (j : Int) (hj : j = i) (h : i < s.size) (w : World) : (Instr.index 9 (.string s) (.int .i64 j)).run Tryz.prog w = .ok (.int .u8 (sb s i : Nat)) w := by
  subst hj
  rw [run_index_string w 9 s .i64 i Tryz.underlying9, dif_pos ⟨by omega, by omega⟩, ← sb_eq h]
  rfl
def ldK (f : Nat → Nat) (n : Nat) : Nat := ((List.range 10).find? fun k => decide (n ≤ k) || decide (f k < 128)).getD 10
theorem ldK_at {f : Nat → Nat} {n k : Nat} (hk : k < 10) (hb : ∀ j, j < k → j < n ∧ 128 ≤ f j) (hs : n ≤ k ∨ f k < 128) : ldK f n = k := by
  unfold ldK
  have : ((List.range 10).find? fun k => decide (n ≤ k) || decide (f k < 128)) = some k := by
    rw [List.find?_range_eq_some]
    refine ⟨by simpa using hs, by simpa using hk, fun j hj => ?_⟩
    have := hb j hj
    simp
    omega
  rw [this]
  rfl
theorem ldK_ten {f : Nat → Nat} {n : Nat} (hb : ∀ j, j < 10 → j < n ∧ 128 ≤ f j) : ldK f n = 10 := by
  unfold ldK
  have : ((List.range 10).find? fun k => decide (n ≤ k) || decide (f k < 128)) = none := by
    rw [List.find?_eq_none]
    intro j hj
    have := hb j (by simpa using hj)
    simp
    omega
  rw [this]
  rfl
def tkc (f : Nat → Nat) (n : Nat) : Int :=
  if ldK f n = 10 then 3 else if n ≤ ldK f n then 2 else if ldK f n = 9 ∧ 1 < f 9 then 3 else if 0 < ldK f n ∧ f (ldK f n) = 0 then 1 else 0
def psum (f : Nat → Nat) : Nat → Nat
  | 0 => 0
  | i + 1 => psum f i + f i % 128 * 128 ^ i
def tkf (s : ByteArray) (a : Nat) : Nat → Nat := fun j => sb s (a + j)
/-- What Take answers: the number, the place behind it, a code. -/
def tk (s : ByteArray) (p : Int) : Nat × Int × Int :=
  if p < 0 ∨ (s.size : Int) < p then (0, 0, 4)
  else if tkc (tkf s p.toNat) (s.size - p.toNat) = 0 then (psum (tkf s p.toNat) (ldK (tkf s p.toNat) (s.size - p.toNat) + 1), p + (ldK (tkf s p.toNat) (s.size - p.toNat) + 1 : Nat), 0)
  else (0, 0, tkc (tkf s p.toNat) (s.size - p.toNat))
/-- An error that Take tells: none, or one code at one place. -/
def TkErr (w : World) (sv : Nat → Addr) (v : Value) (p c : Int) : Prop := (c = 0 ∧ v = .nilIface) ∨ (c ≠ 0 ∧ ErrIs w sv v [p] (sIdx c))
theorem psum_lt (f : Nat → Nat) : ∀ k, psum f k < 128 ^ k
  | 0 => by simp [psum]
  | k + 1 => by
    have h := psum_lt f k
    have h2 : f k % 128 * 128 ^ k ≤ 127 * 128 ^ k := Nat.mul_le_mul_right _ (by omega)
    rw [psum, Nat.pow_succ]
    omega
theorem and127 (c : Nat) (h : c < 256) : bits .and .u8 (c : Int) 127 = ((c % 128 : Nat) : Int) := by
  have : ∀ m : Fin 256, bits .and .u8 ((m.val : Nat) : Int) 127 = ((m.val % 128 : Nat) : Int) := by decide +kernel
  exact this ⟨c, h⟩
theorem u64_or_nat (a b : Nat) (ha : a < 18446744073709551616) (hb : b < 18446744073709551616) : bits .or .u64 (a : Int) (b : Int) = ((a ||| b : Nat) : Int) := by
  have hx : a ||| b < 2 ^ 64 := Nat.or_lt_two_pow (by omega) (by omega)
  show IntKind.u64.wrap ((BitVec.ofInt 64 (a : Int) ||| BitVec.ofInt 64 (b : Int)).toNat : Int) = _
  rw [BitVec.toNat_or, ofInt_u64 a ha, ofInt_u64 b hb, IntKind.wrap_u64]
  omega
theorem wrap_u64_nat (a : Nat) (ha : a < 18446744073709551616) : IntKind.u64.wrap (a : Int) = (a : Int) := by
  rw [IntKind.wrap_u64]; omega
theorem pow7 (k : Nat) : (2 : Nat) ^ (7 * k) = 128 ^ k := by rw [Nat.pow_mul]
theorem or_step (f : Nat → Nat) (k c : Nat) (hc : f k = c) (h : c < 256) (hk : k ≤ 8 ∨ (k = 9 ∧ c ≤ 1)) :
    bits .or .u64 (psum f k : Int) (IntKind.u64.wrap (IntKind.u64.wrap (bits .and .u8 (c : Int) 127) * 2 ^ (7 * k))) = ((psum f (k + 1) : Nat) : Int) := by
  have hp := psum_lt f k
  have hpow : (128 : Nat) ^ k ≤ 9223372036854775808 := Nat.le_trans (Nat.pow_le_pow_right (by decide) (show k ≤ 9 by omega)) (by decide)
  have hb : c % 128 * 128 ^ k < 18446744073709551616 := by
    rcases hk with hk | ⟨rfl, hk⟩
    · have h1 : (128 : Nat) ^ k ≤ 72057594037927936 := Nat.le_trans (Nat.pow_le_pow_right (by decide) hk) (by decide)
      have h2 : c % 128 * 128 ^ k ≤ 127 * 72057594037927936 := Nat.mul_le_mul (by omega) h1
      omega
    · have h2 : c % 128 * 128 ^ 9 ≤ 1 * 128 ^ 9 := Nat.mul_le_mul_right _ (by omega)
      have h3 : (128 : Nat) ^ 9 = 9223372036854775808 := by decide
      omega
  have e1 : ((c % 128 : Nat) : Int) * 2 ^ (7 * k) = ((c % 128 * 128 ^ k : Nat) : Int) := by rw [← pow7]; push_cast; rfl
  rw [and127 c h, wrap_u64_nat _ (by omega), e1, wrap_u64_nat _ hb, u64_or_nat _ _ (by omega) hb, psum, hc]
  congr 1
  have h2 := Nat.two_pow_add_eq_or_of_lt (i := 7 * k) (b := psum f k) (by rw [pow7]; exact hp) (c % 128)
  rw [pow7] at h2
  rw [Nat.or_comm, Nat.mul_comm, ← h2, Nat.mul_comm]
  omega
theorem tk_in {s : ByteArray} {a : Nat} (ha : a ≤ s.size) : tk s (a : Int) = if tkc (tkf s a) (s.size - a) = 0 then (psum (tkf s a) (ldK (tkf s a) (s.size - a) + 1), (a : Int) + (ldK (tkf s a) (s.size - a) + 1 : Nat), 0) else (0, 0, tkc (tkf s a) (s.size - a)) := by
  unfold tk
  rw [if_neg (by omega)]
  simp only [Int.toNat_natCast]
theorem tk_bad {s : ByteArray} {a : Nat} (ha : a ≤ s.size) {c : Int} (hc : tkc (tkf s a) (s.size - a) = c) (h0 : c ≠ 0) : tk s (a : Int) = (0, 0, c) := by
  rw [tk_in ha, hc, if_neg h0]
set_option maxRecDepth 100000 in
set_option maxHeartbeats 1000000 in
theorem take_any {w : World} {sv : Nat → Addr} (S : Sent w sv) (s : ByteArray) (p : Int) (hs : s.size ≤ 1000000) :
    Calls Tryz.prog 45 #[.string s, .int .i64 p] w fun e w' => ∃ v, e = .returned (.tuple #[.int .u64 (tk s p).1, .int .i64 (tk s p).2.1, v]) ∧ TkErr w' sv v p (tk s p).2.2 ∧ Below w.heap.size w w' := by
  by_cases hout : p < 0 ∨ (s.size : Int) < p
  · have htk : tk s p = (0, 0, 4) := by unfold tk; rw [if_pos hout]
    rw [htk]
    replace htk := Lib.hid htk
    replace S := Lib.hid S
    rcases hout with hp | hp
    all_goals
      go_enter Tryz.func45, Tryz.ntmps45
      go_wp2; go_step3
      go_wp2_with fail
      refine (wrong_any S.out p 4 (by decide)).mono ?_; rintro e w1 ⟨v, rfl, hv, hb⟩
      go_wp2_with fail
      try rw [Exit.noGoto_ret]
      refine bodyPost_ret (v := .tuple #[.int .u64 0, .int .i64 0, v]) (by simp [results, Tryz.results45, go_sem]) rfl ⟨v, rfl, .inr ⟨by decide, hv⟩, hb⟩
  · obtain ⟨a, rfl⟩ : ∃ a : Nat, p = a := ⟨p.toNat, by omega⟩
    have ha : a ≤ s.size := by omega
    clear hout
    have bad : ∀ c : Int, c ≠ 0 → tkc (tkf s a) (s.size - a) = c → ∀ (w' : World) (v : Value), ErrIs w' sv v [(a : Int)] (sIdx c) → Below w.heap.size w w' →
        ∃ v', Ending.returned (.tuple #[.int .u64 0, .int .i64 0, v]) = .returned (.tuple #[.int .u64 (tk s a).1, .int .i64 (tk s a).2.1, v']) ∧ TkErr w' sv v' a (tk s a).2.2 ∧ Below w.heap.size w w' := by
      intro c h0 hc w' v hv hb
      rw [tk_bad ha hc h0]
      exact ⟨v, rfl, .inr ⟨h0, hv⟩, hb⟩
    have good : ∀ k : Nat, tkc (tkf s a) (s.size - a) = 0 → ldK (tkf s a) (s.size - a) = k →
        ∃ v', Ending.returned (.tuple #[.int .u64 (psum (tkf s a) (k + 1) : Nat), .int .i64 ((a : Int) + ((k : Nat) + 1 : Int)), .nilIface]) = .returned (.tuple #[.int .u64 (tk s a).1, .int .i64 (tk s a).2.1, v']) ∧ TkErr w sv v' a (tk s a).2.2 ∧ Below w.heap.size w w := by
      intro k hc hk
      rw [tk_in ha, if_pos hc, hk]
      exact ⟨.nilIface, by simp, .inl ⟨rfl, rfl⟩, Below.refl _ _⟩
    replace good := Lib.hid good
    have hd1 : decide (s.size < a) = false := decide_eq_false (by omega)
    have hd2 : decide ((a : Int) < 0) = false := decide_eq_false (by omega)
    replace bad := Lib.hid bad
    replace S := Lib.hid S
    go_enter Tryz.func45, Tryz.ntmps45
    go_wp2; go_step3
    go_wp2; go_step3
    go_wp2
    go_loopw [7, 8, 9] (fun n d i wr => wr = w ∧ ∃ k : Nat, k ≤ 9 ∧ n = .int .u64 (psum (tkf s a) k) ∧ d = .int .i64 0 ∧ i = .int .i64 k ∧ ∀ j, j < k → j < s.size - a ∧ 128 ≤ tkf s a j) (fun _ _ i _ => 20 - (intOf i).toNat)
    case atStart => exact ⟨rfl, 0, by omega, rfl, rfl, rfl, fun j hj => by omega⟩
    case round =>
      obtain ⟨rfl, k, hk9, rfl, rfl, rfl, hj⟩ := hrel
      replace hj := Lib.hid hj
      by_cases hend : k < s.size - a
      · have hsb : ∀ h : a + k < s.size, (s[a + k]'h).toNat = sb s (a + k) := fun h => sb_eq h
        have hlt := sb_lt s (a + k)
        generalize hc : sb s (a + k) = c at *
        have hfk : tkf s a k = c := hc
        have hor := fun hk => or_step (tkf s a) k c hfk hlt hk
        replace hor := Lib.hid hor
        replace hc := Lib.hid hc
        replace hfk := Lib.hid hfk
        by_cases h9 : k = 9
        · by_cases hbig : 1 < c
          · have hcode : tkc (tkf s a) (s.size - a) = 3 := by
              by_cases h128 : 128 ≤ c
              · have : ldK (tkf s a) (s.size - a) = 10 := ldK_ten fun j h => by
                  rcases Nat.lt_or_ge j k with h1 | h1
                  · exact hj.out j h1
                  · obtain rfl : j = k := by omega
                    exact ⟨hend, by rw [hfk.out]; exact h128⟩
                unfold tkc
                rw [if_pos this]
              · have : ldK (tkf s a) (s.size - a) = 9 := by rw [← h9]; exact ldK_at (by omega) hj.out (.inr (by rw [hfk.out]; omega))
                unfold tkc
                rw [this, if_neg (by omega), if_neg (by omega), if_pos ⟨rfl, by rw [← h9, hfk.out]; exact hbig⟩]
            replace hcode := Lib.hid hcode
            subst h9
            go_wp2_with fail
            refine (wrong_any S.out _ 3 (by decide)).mono ?_; rintro e w1 ⟨v, rfl, hv, hb⟩
            go_wp2_with fail
            try rw [Exit.noGoto_ret]
            exact bodyPost_ret (v := .tuple #[.int .u64 0, .int .i64 0, v]) (by simp [results, Tryz.results45, go_sem]) rfl (bad.out 3 (by decide) hcode.out _ v hv hb)
          · by_cases hc0 : c = 0
            · have hcode : tkc (tkf s a) (s.size - a) = 1 := by
                have : ldK (tkf s a) (s.size - a) = k := ldK_at (by omega) hj.out (.inr (by rw [hfk.out]; omega))
                unfold tkc
                rw [this, if_neg (by omega), if_neg (by omega), if_neg (fun h => by have h1 := hfk.out; have h2 := h.1; have h3 := h.2; rw [h2] at h1; omega), if_pos ⟨by omega, by rw [hfk.out]; omega⟩]
              replace hcode := Lib.hid hcode
              replace hc0 := Lib.hid hc0
              subst h9
              have hc0 := hc0.out
              go_wp2_with fail
              refine (wrong_any S.out _ 1 (by decide)).mono ?_; rintro e w1 ⟨v, rfl, hv, hb⟩
              go_wp2_with fail
              try rw [Exit.noGoto_ret]
              exact bodyPost_ret (v := .tuple #[.int .u64 0, .int .i64 0, v]) (by simp [results, Tryz.results45, go_sem]) rfl (bad.out 1 (by decide) hcode.out _ v hv hb)
            · have hcode : tkc (tkf s a) (s.size - a) = 0 ∧ ldK (tkf s a) (s.size - a) = k := by
                have : ldK (tkf s a) (s.size - a) = k := ldK_at (by omega) hj.out (.inr (by rw [hfk.out]; omega))
                refine ⟨?_, this⟩
                unfold tkc
                rw [this, if_neg (by omega), if_neg (by omega), if_neg (fun h => by have h1 := hfk.out; have h2 := h.1; have h3 := h.2; rw [h2] at h1; omega), if_neg (fun h => by have h1 := hfk.out; have h2 := h.1; have h3 := h.2; omega)]
              replace hcode := Lib.hid hcode
              subst h9
              have hor9 : bits .or .u64 (psum (tkf s a) 9 : Int) (IntKind.u64.wrap (IntKind.u64.wrap (bits .and .u8 (c : Int) 127) * 9223372036854775808)) = ((psum (tkf s a) 10 : Nat) : Int) := by
                have h := hor.out (.inr ⟨rfl, by omega⟩)
                have e : (2 : Int) ^ (7 * 9) = 9223372036854775808 := by decide
                rw [e] at h
                exact h
              go_wp2_with fail
              try rw [Exit.noGoto_ret]
              refine bodyPost_ret (v := .tuple #[.int .u64 (psum (tkf s a) (9 + 1) : Nat), .int .i64 ((a : Int) + ((9 : Nat) + 1 : Int)), .nilIface]) (by simp [results, Tryz.results45, go_sem]) rfl (good.out _ hcode.out.1 hcode.out.2)
        · by_cases h128 : 128 ≤ c
          · have hk8 := hor.out (.inl (by omega))
            go_wp2_with fail
            go_roundw
            case rel =>
              have hnext : ∀ j, j < k + 1 → j < s.size - a ∧ 128 ≤ tkf s a j := fun j h => by
                rcases Nat.lt_or_ge j k with h1 | h1
                · exact hj.out j h1
                · obtain rfl : j = k := by omega
                  exact ⟨hend, by rw [hfk.out]; exact h128⟩
              first
                | exact ⟨rfl, k + 1, by omega, rfl, rfl, by go_num, hnext⟩
                | exact ⟨trivial, k + 1, by omega, rfl, rfl, by go_num, hnext⟩
                | ((repeat apply Exists.intro); refine ⟨?_, rfl⟩; exact ⟨trivial, k + 1, by omega, rfl, rfl, by go_num, hnext⟩)
            case measure => simp [intOf]; omega
          · by_cases hf : c = 0 ∧ 0 < k
            · have hcode : tkc (tkf s a) (s.size - a) = 1 := by
                have : ldK (tkf s a) (s.size - a) = k := ldK_at (by omega) hj.out (.inr (by rw [hfk.out]; omega))
                unfold tkc
                rw [this, if_neg (by omega), if_neg (by omega), if_neg (fun h => by have h1 := hfk.out; have h2 := h.1; have h3 := h.2; rw [h2] at h1; omega), if_pos ⟨by omega, by rw [hfk.out]; omega⟩]
              replace hcode := Lib.hid hcode
              obtain ⟨hc0, hk0⟩ := hf
              go_wp2_with fail
              refine (wrong_any S.out _ 1 (by decide)).mono ?_; rintro e w1 ⟨v, rfl, hv, hb⟩
              go_wp2_with fail
              try rw [Exit.noGoto_ret]
              exact bodyPost_ret (v := .tuple #[.int .u64 0, .int .i64 0, v]) (by simp [results, Tryz.results45, go_sem]) rfl (bad.out 1 (by decide) hcode.out _ v hv hb)
            · have hcode : tkc (tkf s a) (s.size - a) = 0 ∧ ldK (tkf s a) (s.size - a) = k := by
                have : ldK (tkf s a) (s.size - a) = k := ldK_at (by omega) hj.out (.inr (by rw [hfk.out]; omega))
                refine ⟨?_, this⟩
                unfold tkc
                rw [this, if_neg (by omega), if_neg (by omega), if_neg (fun h => by have h1 := hfk.out; have h2 := h.1; have h3 := h.2; rw [h2] at h1; omega), if_neg (fun h => by have h1 := hfk.out; have h2 := h.1; have h3 := h.2; omega)]
              replace hcode := Lib.hid hcode
              have hk8 := hor.out (.inl (by omega))
              have hf2 : 0 < c ∨ k < 1 := by omega
              rcases hf2 with hf2 | hf2
              · go_wp2_with fail
                try rw [Exit.noGoto_ret]
                refine bodyPost_ret (v := .tuple #[.int .u64 (psum (tkf s a) (k + 1) : Nat), .int .i64 ((a : Int) + ((k : Nat) + 1 : Int)), .nilIface]) (by simp [results, Tryz.results45, go_sem]) rfl (good.out _ hcode.out.1 hcode.out.2)
              · go_wp2_with fail
                all_goals try rw [Exit.noGoto_ret]
                all_goals exact bodyPost_ret (v := .tuple #[.int .u64 (psum (tkf s a) (k + 1) : Nat), .int .i64 ((a : Int) + ((k : Nat) + 1 : Int)), .nilIface]) (by simp [results, Tryz.results45, go_sem]) rfl (good.out _ hcode.out.1 hcode.out.2)
      · have hcode : tkc (tkf s a) (s.size - a) = 2 := by
          have : ldK (tkf s a) (s.size - a) = k := ldK_at (by omega) hj.out (.inl (by omega))
          unfold tkc
          rw [this, if_neg (by omega), if_pos (by omega)]
        replace hcode := Lib.hid hcode
        go_wp2_with fail
        refine (wrong_any S.out _ 2 (by decide)).mono ?_; rintro e w1 ⟨v, rfl, hv, hb⟩
        go_wp2_with fail
        try rw [Exit.noGoto_ret]
        exact bodyPost_ret (v := .tuple #[.int .u64 0, .int .i64 0, v]) (by simp [results, Tryz.results45, go_sem]) rfl (bad.out 2 (by decide) hcode.out _ v hv hb)
end Go.Proofs.YtpkkjoiglemlgaaGreatDoor
