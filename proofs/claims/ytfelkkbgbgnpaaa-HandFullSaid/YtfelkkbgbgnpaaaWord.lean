/-
  The walks over the layer of words: what each function computes. No condition.
-/
import Derived.Test.YtfelkkbgbgnpaaaRows
import Derived.Test.YtfelkkbgbgnpaaaBase
namespace Go.Proofs.Ytfelkkbgbgnpaaa
set_option linter.unusedVariables false
open Go.ChangeShapes Go.WideShapes Go.ChangeAt Go.RowKit

def cameOf (a : Int) : Int := a / 65536 % 1099511627776
def inOf (a : Int) : Int := a % 65536
theorem cameOf_le (a : Int) : 0 ≤ cameOf a ∧ cameOf a ≤ 1099511627775 := by unfold cameOf; omega
theorem inOf_le (a : Int) : 0 ≤ inOf a ∧ inOf a ≤ 65535 := by unfold inOf; omega
theorem and16 (a : Int) (h0 : 0 ≤ a) (h1 : a ≤ 18446744073709551615) : bits .and .u64 a 65535 = a % 65536 :=
  bits_mask .u64 64 (by decide) (fun n h0 h1 => by rw [IntKind.wrap_u64]; omega) 16 (by decide) a h0 (by omega)
theorem and40 (a : Int) (h0 : 0 ≤ a) (h1 : a ≤ 18446744073709551615) : bits .and .u64 a 1099511627775 = a % 1099511627776 :=
  bits_mask .u64 64 (by decide) (fun n h0 h1 => by rw [IntKind.wrap_u64]; omega) 40 (by decide) a h0 (by omega)
theorem or16 (x y : Int) (h0 : 0 ≤ x) (h1 : x ≤ 1099511627775) (h2 : 0 ≤ y) (h3 : y ≤ 65535) : bits .or .u64 (x * 65536) y = 65536 * x + y := by
  rw [bits_join .u64 64 (by decide) (fun n h0 h1 => by rw [IntKind.wrap_u64]; omega) 16 (x * 65536) y (by omega) (by omega) (by omega) h2 (by omega) (by omega)]
  omega
theorem ret_both (a : Int) (h0 : 0 ≤ a) (h1 : a ≤ 18446744073709551615) :
   Value.agg #[Value.int IntKind.i64 (wrap64 (bits BinOp.and IntKind.u64 (a / 65536) 1099511627775)),
              Value.int IntKind.i64 (wrap64 (bits BinOp.and IntKind.u64 a 65535))] = .agg #[.int .i64 (cameOf a), .int .i64 (inOf a)] := by
  rw [and40 _ (by omega) (by omega), and16 _ h0 h1, IntWalk.wrap64_in _ (by omega), IntWalk.wrap64_in _ (by omega)]; rfl

theorem both (a : Int) (h0 : 0 ≤ a) (h1 : a ≤ 18446744073709551615) (w : World) :
    Calls Try.prog 153 #[.int .u64 a] w fun e w' => e = .returned (.agg #[.int .i64 (cameOf a), .int .i64 (inOf a)]) ∧ Below w.heap.size w w' := by
  go_enter Try.func153, Try.ntmps153
  go_wp2
  refine bodyPost_ret (v := .agg #[Value.int IntKind.i64 (wrap64 (bits BinOp.and IntKind.u64 (a / 65536) 1099511627775)),
              Value.int IntKind.i64 (wrap64 (bits BinOp.and IntKind.u64 a 65535))]) (by simp [results, Try.results153, go_sem]) rfl ⟨by rw [ret_both a h0 h1], ?_⟩
  exact (((Below.refl _ _).alloc (Nat.le_refl _) _).alloc (by simp) _)

def packOk (a b : Int) : Bool := decide (0 ≤ a ∧ a ≤ 1099511627775 ∧ 0 ≤ b ∧ b ≤ 65535)
def packV (a b : Int) : Int := if packOk a b then 65536 * a + b else 0
theorem packOk_t {a b : Int} (h : 0 ≤ a ∧ a ≤ 1099511627775 ∧ 0 ≤ b ∧ b ≤ 65535) : packOk a b = true := by unfold packOk; simpa using h
theorem packOk_f {a b : Int} (h : ¬ (0 ≤ a ∧ a ≤ 1099511627775 ∧ 0 ≤ b ∧ b ≤ 65535)) : packOk a b = false := by unfold packOk; simpa using h
theorem packV_t {a b : Int} (h : 0 ≤ a ∧ a ≤ 1099511627775 ∧ 0 ≤ b ∧ b ≤ 65535) : packV a b = 65536 * a + b := by unfold packV; rw [if_pos (packOk_t h)]
theorem packV_f {a b : Int} (h : ¬ (0 ≤ a ∧ a ≤ 1099511627775 ∧ 0 ≤ b ∧ b ≤ 65535)) : packV a b = 0 := by unfold packV; rw [packOk_f h]; rfl
theorem pack (a b : Int) (ha : -9223372036854775808 ≤ a ∧ a ≤ 9223372036854775807) (hb : -9223372036854775808 ≤ b ∧ b ≤ 9223372036854775807) (w : World) :
    Calls Try.prog 167 #[.int .i64 a, .int .i64 b] w fun e w' => e = .returned (.tuple #[.int .u64 (packV a b), .bool (packOk a b)]) ∧ w = w' := by
  by_cases h : 0 ≤ a ∧ a ≤ 1099511627775 ∧ 0 ≤ b ∧ b ≤ 65535
  · obtain ⟨h1, h2, h3, h4⟩ := h
    go_enter Try.func167, Try.ntmps167
    go_wp2
    go_ret2
    exact ⟨ret_ub ((or16 a b h1 h2 h3 h4).trans (packV_t (by omega)).symm) (packOk_t (by omega)).symm, rfl⟩
  · go_enter Try.func167, Try.ntmps167
    go_wp2
    all_goals (go_ret2; exact ⟨ret_ub (packV_f (by omega)).symm (packOk_f (by omega)).symm, rfl⟩)
theorem packR (a b : Int) (ha : -9223372036854775808 ≤ a ∧ a ≤ 9223372036854775807) (hb : -9223372036854775808 ≤ b ∧ b ≤ 9223372036854775807) (w : World) :
    Calls Try.prog 151 #[.int .i64 a, .int .i64 b] w fun e w' => e = .returned (.tuple #[.int .u64 (packV a b), .bool (packOk a b)]) ∧ w = w' := by
  by_cases h : 0 ≤ a ∧ a ≤ 1099511627775 ∧ 0 ≤ b ∧ b ≤ 65535
  · obtain ⟨h1, h2, h3, h4⟩ := h
    go_enter Try.func151, Try.ntmps151
    go_wp2
    go_ret2
    exact ⟨ret_ub (packV_t (by omega)).symm (packOk_t (by omega)).symm, rfl⟩
  · go_enter Try.func151, Try.ntmps151
    go_wp2
    all_goals (go_ret2; exact ⟨ret_ub (packV_f (by omega)).symm (packOk_f (by omega)).symm, rfl⟩)

theorem came (a : Int) (h0 : 0 ≤ a) (h1 : a ≤ 18446744073709551615) (w : World) :
    Calls Try.prog 141 #[.int .u64 a] w fun e w' => e = .returned (.int .i64 (cameOf a)) ∧ Below w.heap.size w w' := by
  have i0 : ∀ w, (Instr.index 240 (.agg #[.int .i64 (cameOf a), .int .i64 (inOf a)]) (.int .i64 0)).run Try.prog w = .ok (.int .i64 (cameOf a)) w := fun _ => by kernel_rfl
  go_enter Try.func141, Try.ntmps141
  go_wp2_with (go_at_call 153; refine (both _ (by omega) (by omega) _).mono ?_; rintro e w' ⟨rfl, hb⟩)
  go_ret
  exact ⟨rfl, hb⟩
theorem cameR (a : Int) (h0 : 0 ≤ a) (h1 : a ≤ 18446744073709551615) (w : World) :
    Calls Try.prog 138 #[.int .u64 a] w fun e w' => e = .returned (.int .i64 (cameOf a)) ∧ w = w' := by
  go_enter Try.func138, Try.ntmps138
  go_wp2
  go_ret
  exact ⟨ret_i (by unfold cameOf; simp), rfl⟩
theorem innR (a : Int) (h0 : 0 ≤ a) (h1 : a ≤ 18446744073709551615) (w : World) :
    Calls Try.prog 150 #[.int .u64 a] w fun e w' => e = .returned (.int .i64 (inOf a)) ∧ w = w' := by
  go_enter Try.func150, Try.ntmps150
  go_wp2
  go_ret
  exact ⟨ret_i (by unfold inOf; simp), rfl⟩

def entOk (a m : Int) : Bool := decide (inOf a < m) && packOk (cameOf a + 1) (inOf a + 1)
def entV (a m : Int) : Int := if entOk a m then 65536 * (cameOf a + 1) + (inOf a + 1) else 0
theorem ent_lo {a m : Int} (h : m ≤ inOf a) : entOk a m = false ∧ entV a m = 0 := by
  have h1 : entOk a m = false := by unfold entOk; rw [decide_eq_false (by omega)]; rfl
  exact ⟨h1, by unfold entV; rw [h1]; rfl⟩
theorem ent_hi {a m : Int} (h : inOf a < m) : entOk a m = packOk (cameOf a + 1) (inOf a + 1) ∧ entV a m = packV (cameOf a + 1) (inOf a + 1) := by
  have h1 : entOk a m = packOk (cameOf a + 1) (inOf a + 1) := by unfold entOk; rw [decide_eq_true h]; rfl
  exact ⟨h1, by unfold entV packV; rw [h1]⟩
theorem enter (a m : Int) (h0 : 0 ≤ a) (h1 : a ≤ 18446744073709551615) (w : World) :
    Calls Try.prog 152 #[.int .u64 a, .int .i64 m] w fun e w' => e = .returned (.tuple #[.int .u64 (entV a m), .bool (entOk a m)]) ∧ Below w.heap.size w w' := by
  have c1 := cameOf_le a
  have c2 := inOf_le a
  by_cases h : inOf a < m
  · go_enter Try.func152, Try.ntmps152
    go_wp2_with (first | (go_at_call 153; refine (both _ (by omega) (by omega) _).mono ?_; rintro e w' ⟨rfl, hb⟩) | (go_at_call 167; refine (pack _ _ (by omega) (by omega) _).mono ?_; rintro e w2 ⟨rfl, rfl⟩))
    go_ret2
    exact ⟨ret_ub (ent_hi h).2.symm (ent_hi h).1.symm, hb.alloc hb.size _⟩
  · go_enter Try.func152, Try.ntmps152
    go_wp2_with (first | (go_at_call 153; refine (both _ (by omega) (by omega) _).mono ?_; rintro e w' ⟨rfl, hb⟩) | (go_at_call 167; refine (pack _ _ (by omega) (by omega) _).mono ?_; rintro e w2 ⟨rfl, rfl⟩))
    go_ret2
    exact ⟨ret_ub (ent_lo (by omega)).2.symm (ent_lo (by omega)).1.symm, hb.alloc hb.size _⟩

def lvOk (a n : Int) : Bool := decide (0 ≤ n ∧ n ≤ inOf a)
def lvV (a n : Int) : Int := if lvOk a n then 65536 * cameOf a + (inOf a - n) else 0
theorem lv_t {a n : Int} (h : 0 ≤ n ∧ n ≤ inOf a) : lvOk a n = true ∧ lvV a n = 65536 * cameOf a + (inOf a - n) := by
  have h1 : lvOk a n = true := by unfold lvOk; exact decide_eq_true h
  exact ⟨h1, by unfold lvV; rw [h1]; rfl⟩
theorem lv_f {a n : Int} (h : ¬ (0 ≤ n ∧ n ≤ inOf a)) : lvOk a n = false ∧ lvV a n = 0 := by
  have h1 : lvOk a n = false := by unfold lvOk; exact decide_eq_false h
  exact ⟨h1, by unfold lvV; rw [h1]; rfl⟩

theorem lv_pack (a n : Int) (hn : 0 ≤ n) : packOk (cameOf a) (inOf a - n) = lvOk a n ∧ packV (cameOf a) (inOf a - n) = lvV a n := by
  have c1 := cameOf_le a
  have c2 := inOf_le a
  by_cases h : n ≤ inOf a
  · obtain ⟨e1, e2⟩ := lv_t (a := a) (n := n) ⟨hn, h⟩
    exact ⟨by rw [e1, packOk_t (by omega)], by rw [e2, packV_t (by omega)]⟩
  · obtain ⟨e1, e2⟩ := lv_f (a := a) (n := n) (by omega)
    exact ⟨by rw [e1, packOk_f (by omega)], by rw [e2, packV_f (by omega)]⟩
theorem ent_f {a m : Int} (h : m ≤ inOf a ∨ inOf a = 65535 ∨ cameOf a = 1099511627775) : entOk a m = false ∧ entV a m = 0 := by
  by_cases g : inOf a < m
  · obtain ⟨e1, e2⟩ := ent_hi g
    exact ⟨by rw [e1, packOk_f (by omega)], by rw [e2, packV_f (by omega)]⟩
  · exact ent_lo (by omega)
theorem enterR (a m : Int) (h0 : 0 ≤ a) (h1 : a ≤ 18446744073709551615) (w : World) :
    Calls Try.prog 137 #[.int .u64 a, .int .i64 m] w fun e w' => e = .returned (.tuple #[.int .u64 (entV a m), .bool (entOk a m)]) ∧ w = w' := by
  have c1 := cameOf_le a
  have c2 := inOf_le a
  go_enter Try.func137, Try.ntmps137
  go_wp2_with (first | (go_at_call 138; refine (cameR _ (by omega) (by omega) _).mono ?_; rintro e w' ⟨rfl, rfl⟩) | (go_at_call 150; refine (innR _ (by omega) (by omega) _).mono ?_; rintro e w2 ⟨rfl, rfl⟩) | (go_at_call 151; refine (packR _ _ (by omega) (by omega) _).mono ?_; rintro e w2 ⟨rfl, rfl⟩))
  · go_ret2
    exact ⟨ret_ub (ent_f (by omega)).2.symm (ent_f (by omega)).1.symm, rfl⟩
  · go_ret2
    have h : (m ≤ inOf a ∨ (inOf a == 65535) = true) ∨ (cameOf a == 1099511627775) = true := by assumption
    simp only [beq_iff_eq] at h
    exact ⟨ret_ub (ent_f (by omega)).2.symm (ent_f (by omega)).1.symm, rfl⟩
  · go_ret2
    have h : inOf a < m := by assumption
    exact ⟨ret_ub (ent_hi h).2.symm (ent_hi h).1.symm, rfl⟩
  · go_ret2
    exact ⟨ret_ub (ent_f (by omega)).2.symm (ent_f (by omega)).1.symm, rfl⟩
theorem eq23 (w : World) (a b c f : Int) : (Op.equalIn 10000 240 (.agg #[.int .i64 a, .int .i64 b]) (.agg #[.int .i64 c, .int .i64 f])).run Try.prog w = .ok (a == c && b == f) w := by
  obtain ⟨i, hi, h1⟩ : ∃ i, Try.prog.info? 3 = some i ∧ i.size = 1 := by
    have : (Try.prog.info? 3).map (·.size) = some 1 := by kernel_rfl
    cases h : Try.prog.info? 3 <;> simp_all
  exact run_equalIn_arr2 w 9998 240 3 .i64 a b c f i Try.underlying240 Try.underlying3 hi h1

theorem back_nat (a : Int) : packOk (cameOf a) (inOf a) = true ∧ packV (cameOf a) (inOf a) = IntKind.u64.wrap (a * 256) / 256 ∧ 0 ≤ packV (cameOf a) (inOf a) ∧ packV (cameOf a) (inOf a) ≤ 18446744073709551615 ∧
   cameOf (packV (cameOf a) (inOf a)) = cameOf a ∧ inOf (packV (cameOf a) (inOf a)) = inOf a := by
  have c1 := cameOf_le a
  have c2 := inOf_le a
  have e2 : packV (cameOf a) (inOf a) = 65536 * cameOf a + inOf a := packV_t (by omega)
  refine ⟨packOk_t (by omega), ?_, ?_, ?_, ?_, ?_⟩ <;> rw [e2] <;> (try rw [IntKind.wrap_u64]) <;> unfold cameOf inOf <;> omega


end Go.Proofs.Ytfelkkbgbgnpaaa
