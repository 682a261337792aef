/-
  Where a ticket's cell, a shelf's head stand: the program's, and the document's. No condition.
-/
import Derived.Test.YtfelkkbgbgnpaaaPlan
import Derived.Test.YtfelkkbgbgnpaaaAt
import Derived.Test.YtfelkkbgbgnpaaaReserveF
namespace Go.Proofs.Ytfelkkbgbgnpaaa
set_option linter.unusedVariables false
open Go.ChangeShapes Go.WideShapes Go.ChangeAt Go.RowKit
open Go.ChangeMaps (setBlock)

def ringAt (c : PCfg) (t : Int) : Int := 3 + c.pins + t % c.cap
theorem ringAt_ok {c : PCfg} (h : c.Right) (t : Int) (ht : 0 ≤ t) : 4 ≤ ringAt c t ∧ ringAt c t ≤ 100 ∧ 3 + c.pins ≤ ringAt c t ∧ ringAt c t < 3 + c.pins + c.cap := by
  have h1 := h.pins
  have h2 := h.cap
  have h3 := Int.emod_nonneg t (b := c.cap) (by omega)
  have h4 := Int.emod_lt_of_pos t (b := c.cap) (by omega)
  unfold ringAt
  omega
set_option maxHeartbeats 1000000 in
theorem planRing_any (c : PCfg) (h : c.Right) (i : Int) (hi : 0 ≤ i ∧ i ≤ 9223372036854775807) (w : World) : Calls Try.prog 42 #[c.val, .int .i64 i] w fun e w' => e = .returned (.int .i64 (ringAt c i)) ∧ Below w.heap.size w w' := by
  have hR := fun W => right_cfg c W
  rw [(PCfg.right_iff c).2 h] at hR
  have hS := fun W => ring_any c h W
  have hE : ringAt c i = 3 + c.pins + i % c.cap := rfl
  have hok := ringAt_ok h i hi.1
  rw [hE] at hok ⊢
  clear hE
  obtain ⟨a, b, s, q, t, z⟩ := c
  rw [show PCfg.val ⟨a, b, s, q, t, z⟩ = .agg #[.int .i64 a, .int .i64 b, .int .i64 s, .int .i64 q, .int .i64 t, .int .u64 z] from rfl] at *
  have h1 : 1 ≤ b ∧ b ≤ 8 := h.pins
  have h2 : 1 ≤ a ∧ a ≤ 32 := h.cap
  simp only at hok hS ⊢
  have hm : i.tmod a = i % a := Int.tmod_eq_emod_of_nonneg hi.1
  have hp0 : ¬ a = 0 := by omega
  have hp1 : ¬ a = -1 := by omega
  have hpp : 0 < a := by omega
  have hpz : (a == 0) = false := by rw [beq_eq_false_iff_ne]; omega
  have hf0 := Int.emod_nonneg i (b := a) (by omega)
  have hf1 := Int.emod_lt_of_pos i (b := a) (by omega)
  have d1 : decide (i < 0) = false := by simp; omega
  have hw : IntKind.i64.wrap (3 + b + i % a) = 3 + b + i % a := IntWalk.i64_in _ (by omega)
  have B1 := Blk.new w 24 #[.int .i64 a, .int .i64 b, .int .i64 s, .int .i64 q, .int .i64 t, .int .u64 z]
  have hz : Below w.heap.size w (w.alloc (.cells #[.int .i64 a, .int .i64 b, .int .i64 s, .int .i64 q, .int .i64 t, .int .u64 z] 24)) := (Below.refl _ _).alloc (Nat.le_refl _) _
  replace B1 := Lib.hid B1
  replace hz := Lib.hid hz
  replace hR := Lib.hid hR
  replace hS := Lib.hid hS
  replace hok := Lib.hid hok
  go_enter Try.func42, Try.ntmps42
  go_wp2_with fail
  refine (hR.out _).mono ?_; rintro e w1 ⟨rfl, hb⟩
  have hz1 := nx hz.out (Nat.le_refl _) hb
  have B2 := B1.out.below hb (by simp)
  have d0 := B2.cell 0
  have d1' := B2.cell 1
  have d2 := B2.cell 2
  have d3 := B2.cell 3
  have d4 := B2.cell 4
  have d5 := B2.cell 5
  have hs1 := B2.lt
  clear hb
  replace B2 := Lib.hid B2
  replace hz1 := Lib.hid hz1
  go_wp2_with fail
  go_region_with (go_at_call 99; refine (hS.out _).mono ?_; rintro e w2 ⟨rfl, hb⟩; have c0 := (Blk.below (w := w1.drew) B2.out hb hs1).cell 0)
  all_goals
    go_wp2
    go_ret
    refine ⟨by simp [Act.put], ?_⟩
    have hb' := nx (b := w1.drew) hz1.out.drew (Nat.le_refl _) hb
    first | exact hb' | exact hb'.drew | exact below_drewN hb' _
theorem refHeadAt (c : PCfg) (hc : c.Right) (k : Nat) (hk : (k : Int) < c.shelves) (w : World) : Calls Try.prog 114 #[c.val, .string ⟨#[104, 101, 97, 100]⟩, .int .i64 k] w fun e w' => e = .returned (.int .i64 (3 + c.pins + c.cap + 2 * k + 1)) ∧ Below w.heap.size w w' := by
  have h1 := hc.pins
  have h2 := hc.cap
  have h3 := hc.shelves
  have := refAt_any c hc c.pins.toNat c.cap.toNat c.shelves.toNat (by omega) (by omega) (by omega) (3 + c.pins.toNat + c.cap.toNat + 2 * k + 1) (by omega) nmHead k cellAt_head w
  rwa [show ((3 + c.pins.toNat + c.cap.toNat + 2 * k + 1 : Nat) : Int) = 3 + c.pins + c.cap + 2 * k + 1 by omega] at this
theorem refRingAt (c : PCfg) (hc : c.Right) (k : Nat) (hk : (k : Int) < c.cap) (w : World) : Calls Try.prog 114 #[c.val, .string ⟨#[114, 105, 110, 103]⟩, .int .i64 k] w fun e w' => e = .returned (.int .i64 (3 + c.pins + k)) ∧ Below w.heap.size w w' := by
  have h1 := hc.pins
  have h2 := hc.cap
  have h3 := hc.shelves
  have := refAt_any c hc c.pins.toNat c.cap.toNat c.shelves.toNat (by omega) (by omega) (by omega) (3 + c.pins.toNat + k) (by omega) nmRing k (cellAt_ring (by omega)) w
  rwa [show ((3 + c.pins.toNat + k : Nat) : Int) = 3 + c.pins + k by omega] at this
set_option maxHeartbeats 1000000 in
theorem refRing_any (c : PCfg) (h : c.Right) (i : Int) (hi : 0 ≤ i ∧ i ≤ 9223372036854775807) (w : World) : Calls Try.prog 139 #[c.val, .int .i64 i] w fun e w' => e = .returned (.int .i64 (ringAt c i)) ∧ Below w.heap.size w w' := by
  have hR := fun W => refRight_any c W
  rw [(PCfg.right_iff c).2 h] at hR
  have h2 := h.cap
  have hf0 := Int.emod_nonneg i (b := c.cap) (by omega)
  have hf1 := Int.emod_lt_of_pos i (b := c.cap) (by omega)
  have hS := fun W => refRingAt c h (i % c.cap).toNat (by omega) W
  rw [show ((i % c.cap).toNat : Int) = i % c.cap by omega] at hS
  have hE : ringAt c i = 3 + c.pins + i % c.cap := rfl
  rw [hE]
  clear hE
  obtain ⟨a, b, s, q, t, z⟩ := c
  rw [show PCfg.val ⟨a, b, s, q, t, z⟩ = .agg #[.int .i64 a, .int .i64 b, .int .i64 s, .int .i64 q, .int .i64 t, .int .u64 z] from rfl] at *
  simp only at h2 hS hf0 hf1 ⊢
  have hm : i.tmod a = i % a := Int.tmod_eq_emod_of_nonneg hi.1
  have hp0 : ¬ a = 0 := by omega
  have hp1 : ¬ a = -1 := by omega
  have hpp : 0 < a := by omega
  have hpz : (a == 0) = false := by rw [beq_eq_false_iff_ne]; omega
  have d1 : decide (i < 0) = false := by simp; omega
  have B1 := Blk.new w 24 #[.int .i64 a, .int .i64 b, .int .i64 s, .int .i64 q, .int .i64 t, .int .u64 z]
  have hz : Below w.heap.size w (w.alloc (.cells #[.int .i64 a, .int .i64 b, .int .i64 s, .int .i64 q, .int .i64 t, .int .u64 z] 24)) := (Below.refl _ _).alloc (Nat.le_refl _) _
  replace B1 := Lib.hid B1
  replace hz := Lib.hid hz
  replace hR := Lib.hid hR
  replace hS := Lib.hid hS
  go_enter Try.func139, Try.ntmps139
  go_wp2_with fail
  refine (hR.out _).mono ?_; rintro e w1 ⟨rfl, hb⟩
  have hz1 := nx hz.out (Nat.le_refl _) hb
  have B2 := B1.out.below hb (by simp)
  have d0 := B2.cell 0
  have d1' := B2.cell 1
  have d2 := B2.cell 2
  have d3 := B2.cell 3
  have d4 := B2.cell 4
  have d5 := B2.cell 5
  have hs1 := B2.lt
  clear hb
  replace B2 := Lib.hid B2
  replace hz1 := Lib.hid hz1
  go_wp2_with fail
  go_region_with (go_at_call 114; refine (hS.out _).mono ?_; rintro e w2 ⟨rfl, hb⟩)
  all_goals
    go_wp2
    go_ret
    refine ⟨by simp [Act.put], ?_⟩
    have hb' := nx (b := w1.drew) hz1.out.drew (Nat.le_refl _) hb
    first | exact hb' | exact hb'.drew | exact below_drewN hb' _
end Go.Proofs.Ytfelkkbgbgnpaaa
