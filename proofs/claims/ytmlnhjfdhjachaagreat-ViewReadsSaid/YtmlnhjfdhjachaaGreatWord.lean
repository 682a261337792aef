/-
  The walks over the layer of words: what each function computes. No condition.
-/
import Derived.Test.YtmlnhjfdhjachaaGreatRows
import Derived.Test.YtmlnhjfdhjachaaGreatBase
namespace Go.Proofs.YtmlnhjfdhjachaaGreat
set_option linter.unusedVariables false
open Go.ChangeShapes Go.WideShapes Go.ChangeAt Go.RowKit

def cameOf (a : Int) : Int := a / 65536 % 1099511627776
def inOf (a : Int) : Int := a % 65536
theorem cameOf_le (a : Int) : 0 ≤ cameOf a ∧ cameOf a ≤ 1099511627775 := by unfold cameOf; omega
theorem inOf_le (a : Int) : 0 ≤ inOf a ∧ inOf a ≤ 65535 := by unfold inOf; omega
theorem and16 (a : Int) (h0 : 0 ≤ a) (h1 : a ≤ 18446744073709551615) : bits .and .u64 a 65535 = a % 65536 :=
  bits_mask .u64 64 (by decide) (fun n h0 h1 => by rw [IntKind.wrap_u64]; omega) 16 (by decide) a h0 (by omega)
theorem and40 (a : Int) (h0 : 0 ≤ a) (h1 : a ≤ 18446744073709551615) : bits .and .u64 a 1099511627775 = a % 1099511627776 :=
  bits_mask .u64 64 (by decide) (fun n h0 h1 => by rw [IntKind.wrap_u64]; omega) 40 (by decide) a h0 (by omega)
theorem or16 (x y : Int) (h0 : 0 ≤ x) (h1 : x ≤ 1099511627775) (h2 : 0 ≤ y) (h3 : y ≤ 65535) : bits .or .u64 (x * 65536) y = 65536 * x + y := by
  rw [bits_join .u64 64 (by decide) (fun n h0 h1 => by rw [IntKind.wrap_u64]; omega) 16 (x * 65536) y (by omega) (by omega) (by omega) h2 (by omega) (by omega)]
  omega
theorem ret_both (a : Int) (h0 : 0 ≤ a) (h1 : a ≤ 18446744073709551615) :
   Value.agg #[Value.int IntKind.i64 (wrap64 (bits BinOp.and IntKind.u64 (a / 65536) 1099511627775)),
              Value.int IntKind.i64 (wrap64 (bits BinOp.and IntKind.u64 a 65535))] = .agg #[.int .i64 (cameOf a), .int .i64 (inOf a)] := by
  rw [and40 _ (by omega) (by omega), and16 _ h0 h1, IntWalk.wrap64_in _ (by omega), IntWalk.wrap64_in _ (by omega)]; rfl

def packOk (a b : Int) : Bool := decide (0 ≤ a ∧ a ≤ 1099511627775 ∧ 0 ≤ b ∧ b ≤ 65535)
def packV (a b : Int) : Int := if packOk a b then 65536 * a + b else 0
theorem packOk_t {a b : Int} (h : 0 ≤ a ∧ a ≤ 1099511627775 ∧ 0 ≤ b ∧ b ≤ 65535) : packOk a b = true := by unfold packOk; simpa using h
theorem packOk_f {a b : Int} (h : ¬ (0 ≤ a ∧ a ≤ 1099511627775 ∧ 0 ≤ b ∧ b ≤ 65535)) : packOk a b = false := by unfold packOk; simpa using h
theorem packV_t {a b : Int} (h : 0 ≤ a ∧ a ≤ 1099511627775 ∧ 0 ≤ b ∧ b ≤ 65535) : packV a b = 65536 * a + b := by unfold packV; rw [if_pos (packOk_t h)]
theorem packV_f {a b : Int} (h : ¬ (0 ≤ a ∧ a ≤ 1099511627775 ∧ 0 ≤ b ∧ b ≤ 65535)) : packV a b = 0 := by unfold packV; rw [packOk_f h]; rfl
def entOk (a m : Int) : Bool := decide (inOf a < m) && packOk (cameOf a + 1) (inOf a + 1)
def entV (a m : Int) : Int := if entOk a m then 65536 * (cameOf a + 1) + (inOf a + 1) else 0
theorem ent_lo {a m : Int} (h : m ≤ inOf a) : entOk a m = false ∧ entV a m = 0 := by
  have h1 : entOk a m = false := by unfold entOk; rw [decide_eq_false (by omega)]; rfl
  exact ⟨h1, by unfold entV; rw [h1]; rfl⟩
theorem ent_hi {a m : Int} (h : inOf a < m) : entOk a m = packOk (cameOf a + 1) (inOf a + 1) ∧ entV a m = packV (cameOf a + 1) (inOf a + 1) := by
  have h1 : entOk a m = packOk (cameOf a + 1) (inOf a + 1) := by unfold entOk; rw [decide_eq_true h]; rfl
  exact ⟨h1, by unfold entV packV; rw [h1]⟩
def lvOk (a n : Int) : Bool := decide (0 ≤ n ∧ n ≤ inOf a)
def lvV (a n : Int) : Int := if lvOk a n then 65536 * cameOf a + (inOf a - n) else 0
theorem lv_t {a n : Int} (h : 0 ≤ n ∧ n ≤ inOf a) : lvOk a n = true ∧ lvV a n = 65536 * cameOf a + (inOf a - n) := by
  have h1 : lvOk a n = true := by unfold lvOk; exact decide_eq_true h
  exact ⟨h1, by unfold lvV; rw [h1]; rfl⟩
theorem lv_f {a n : Int} (h : ¬ (0 ≤ n ∧ n ≤ inOf a)) : lvOk a n = false ∧ lvV a n = 0 := by
  have h1 : lvOk a n = false := by unfold lvOk; exact decide_eq_false h
  exact ⟨h1, by unfold lvV; rw [h1]; rfl⟩

theorem lv_pack (a n : Int) (hn : 0 ≤ n) : packOk (cameOf a) (inOf a - n) = lvOk a n ∧ packV (cameOf a) (inOf a - n) = lvV a n := by
  have c1 := cameOf_le a
  have c2 := inOf_le a
  by_cases h : n ≤ inOf a
  · obtain ⟨e1, e2⟩ := lv_t (a := a) (n := n) ⟨hn, h⟩
    exact ⟨by rw [e1, packOk_t (by omega)], by rw [e2, packV_t (by omega)]⟩
  · obtain ⟨e1, e2⟩ := lv_f (a := a) (n := n) (by omega)
    exact ⟨by rw [e1, packOk_f (by omega)], by rw [e2, packV_f (by omega)]⟩
theorem ent_f {a m : Int} (h : m ≤ inOf a ∨ inOf a = 65535 ∨ cameOf a = 1099511627775) : entOk a m = false ∧ entV a m = 0 := by
  by_cases g : inOf a < m
  · obtain ⟨e1, e2⟩ := ent_hi g
    exact ⟨by rw [e1, packOk_f (by omega)], by rw [e2, packV_f (by omega)]⟩
  · exact ent_lo (by omega)
theorem back_nat (a : Int) : packOk (cameOf a) (inOf a) = true ∧ packV (cameOf a) (inOf a) = IntKind.u64.wrap (a * 256) / 256 ∧ 0 ≤ packV (cameOf a) (inOf a) ∧ packV (cameOf a) (inOf a) ≤ 18446744073709551615 ∧
   cameOf (packV (cameOf a) (inOf a)) = cameOf a ∧ inOf (packV (cameOf a) (inOf a)) = inOf a := by
  have c1 := cameOf_le a
  have c2 := inOf_le a
  have e2 : packV (cameOf a) (inOf a) = 65536 * cameOf a + inOf a := packV_t (by omega)
  refine ⟨packOk_t (by omega), ?_, ?_, ?_, ?_, ?_⟩ <;> rw [e2] <;> (try rw [IntKind.wrap_u64]) <;> unfold cameOf inOf <;> omega


end Go.Proofs.YtmlnhjfdhjachaaGreat
