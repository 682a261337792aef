/-
  The routine that pins an epoch (layer 25): how it is made. No condition.
-/
import Derived.Test.YtpldnbdcpihjcaaPin
namespace Go.Proofs.Ytpldnbdcpihjcaa
set_option linter.unusedVariables false
open Go.ChangeShapes Go.WideShapes Go.ChangeAt Go.RowKit
open Go.ChangeMaps (setBlock)

def newPin (c : PCfg) (th : Int) : PPin := ⟨c, th % c.pins, 0, 1, 0, 0, false⟩
set_option maxRecDepth 100000 in
set_option maxHeartbeats 1000000 in
theorem pinNew_any (c : PCfg) (hc : c.Right) (th : Int) (hth : 0 ≤ th ∧ th ≤ 9223372036854775807) (w : World) :
    Calls Try.prog 33 #[c.val, .int .i64 th] w fun e w' => ∃ b, e = .returned (.pointer (some ⟨b, 0, none⟩)) ∧ PinIn w' b (newPin c th) ∧ w.heap.size ≤ b ∧ Below w.heap.size w w' := by
  have hR := fun W => right_cfg c W
  rw [(PCfg.right_iff c).2 hc] at hR
  have hp := hc.pins
  have fin : ∀ (W : World) (b : Nat), Blk W b 139 #[.int .i64 c.cap, .int .i64 c.pins, .int .i64 c.shelves, .int .i64 c.queue, .int .i64 c.watchers, .int .u64 c.seed, .int .i64 (th % c.pins), .int .i64 0, .int .i64 1, .int .i64 0, .int .u64 0, .bool false] → PinIn W b (newPin c th) := fun W b h =>
    ⟨h, fun _ => hc, fun _ => ⟨Int.emod_nonneg _ (by omega), Int.emod_lt_of_pos _ (by omega)⟩, fun _ => by show (0 : Int) ≤ 0 ∧ (0 : Int) ≤ c.pins; omega, by show (0 : Int) ≤ 1 ∧ (1 : Int) ≤ 5; decide, by show (0 : Int) ≤ 0 ∧ (0 : Int) ≤ 18446744073709551615; decide⟩
  generalize newPin c th = N at *
  clear hc
  obtain ⟨a, p, s, q, t, z⟩ := c
  simp only at hp fin
  have hm : th.tmod p = th % p := Int.tmod_eq_emod_of_nonneg hth.1
  have hp0 : ¬ p = 0 := by omega
  have hp1 : ¬ p = -1 := by omega
  have hpp : 0 < p := by omega
  have hpz : (p == 0) = false := by rw [beq_eq_false_iff_ne]; omega
  have hn0 : decide (th < 0) = false := by simp; omega
  rw [show PCfg.val ⟨a, p, s, q, t, z⟩ = .agg #[.int .i64 a, .int .i64 p, .int .i64 s, .int .i64 q, .int .i64 t, .int .u64 z] from rfl] at *
  have B1 := Blk.new w 24 #[.int .i64 a, .int .i64 p, .int .i64 s, .int .i64 q, .int .i64 t, .int .u64 z]
  have hz : Below w.heap.size w (w.alloc (.cells #[.int .i64 a, .int .i64 p, .int .i64 s, .int .i64 q, .int .i64 t, .int .u64 z] 24)) := (Below.refl _ _).alloc (Nat.le_refl _) _
  replace B1 := Lib.hid B1
  replace hz := Lib.hid hz
  replace hR := Lib.hid hR
  replace fin := Lib.hid fin
  go_enter Try.func33, Try.ntmps33
  go_wp2_with fail
  refine (hR.out _).mono ?_; rintro e w1 ⟨rfl, hb⟩
  have B2 := B1.out.below hb (by simp)
  have hb' := nx hz.out (Nat.le_refl _) hb
  have d0 := B2.cell 0
  have d1 := B2.cell 1
  have d2 := B2.cell 2
  have d3 := B2.cell 3
  have d4 := B2.cell 4
  have d5 := B2.cell 5
  clear hb
  replace B2 := Lib.hid B2
  replace hb' := Lib.hid hb'
  go_wp2_with fail
  go_still_tail 6, (by kernel_rfl)
  change wpList _ _ _ _ _ w1.drew
  go_wp2_with fail
  go_ret
  exact ⟨w1.heap.size, rfl, fin.out _ _ (Blk.new w1.drew _ _), hb'.out.size, hb'.out.drew.alloc hb'.out.size _⟩
end Go.Proofs.Ytpldnbdcpihjcaa
