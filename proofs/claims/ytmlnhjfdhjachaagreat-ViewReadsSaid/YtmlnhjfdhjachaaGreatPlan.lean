/-
  Configs, and where everything stands in the control block (layer 21). No condition.
-/
import Derived.Test.YtmlnhjfdhjachaaGreatRows
import Derived.Test.YtmlnhjfdhjachaaGreatFr
import Derived.Deep.RegionWith
import Derived.BigQuiet
namespace Go.Proofs.YtmlnhjfdhjachaaGreat
set_option linter.unusedVariables false
open Go.ChangeShapes Go.WideShapes Go.ChangeAt Go.RowKit
open Go.ChangeMaps (setBlock)

structure PCfg where
  cap : Int
  pins : Int
  shelves : Int
  queue : Int
  watchers : Int
  seed : Int
def PCfg.val (c : PCfg) : Value := .agg #[.int .i64 c.cap, .int .i64 c.pins, .int .i64 c.shelves, .int .i64 c.queue, .int .i64 c.watchers, .int .u64 c.seed]
structure PCfg.Right (c : PCfg) : Prop where
  cap : 1 ≤ c.cap ∧ c.cap ≤ 32
  pins : 1 ≤ c.pins ∧ c.pins ≤ 8
  shelves : 1 ≤ c.shelves ∧ c.shelves ≤ 64
  queue : 0 ≤ c.queue ∧ c.queue ≤ 64
  watchers : 0 ≤ c.watchers ∧ c.watchers ≤ 8
def PCfg.right (c : PCfg) : Bool := decide (1 ≤ c.cap ∧ c.cap ≤ 32) && decide (1 ≤ c.pins ∧ c.pins ≤ 8) && decide (1 ≤ c.shelves ∧ c.shelves ≤ 64) && decide (0 ≤ c.queue ∧ c.queue ≤ 64) && decide (0 ≤ c.watchers ∧ c.watchers ≤ 8)
theorem PCfg.right_iff (c : PCfg) : c.right = true ↔ c.Right := by
  unfold PCfg.right
  simp only [Bool.and_eq_true, decide_eq_true_eq]
  constructor
  · rintro ⟨⟨⟨⟨h1, h2⟩, h3⟩, h4⟩, h5⟩
    exact ⟨h1, h2, h3, h4, h5⟩
  · rintro ⟨h1, h2, h3, h4, h5⟩
    exact ⟨⟨⟨⟨h1, h2⟩, h3⟩, h4⟩, h5⟩
set_option maxHeartbeats 1000000 in
theorem within_any (n l m : Int) (w : World) : Calls Tryz.prog 56 #[.int .i64 n, .int .i64 l, .int .i64 m] w fun e w' => e = .returned (.bool (decide (l ≤ n ∧ n ≤ m))) ∧ w = w' := by
  by_cases h1 : l ≤ n
  · by_cases h2 : n ≤ m
    · have d1 : decide (l ≤ n) = true := by simp [h1]
      have d2 : decide (n ≤ m) = true := by simp [h2]
      go_enter Tryz.func56, Tryz.ntmps56
      go_wp2
      go_ret
      exact ⟨by simp [h1, h2], rfl⟩
    · have d1 : decide (l ≤ n) = true := by simp [h1]
      have d2 : decide (n ≤ m) = false := by simp [h2]
      go_enter Tryz.func56, Tryz.ntmps56
      go_wp2
      go_ret
      exact ⟨by simp, rfl⟩
  · have d1 : decide (l ≤ n) = false := by simp [h1]
    go_enter Tryz.func56, Tryz.ntmps56
    go_wp2
    go_ret
    exact ⟨by simp, rfl⟩
set_option maxHeartbeats 1000000 in
theorem right_cfg (c : PCfg) (w : World) : Calls Tryz.prog 15 #[c.val] w fun e w' => e = .returned (.bool c.right) ∧ Below w.heap.size w w' := by
  obtain ⟨a, b, s, q, t, z⟩ := c
  rw [show PCfg.val ⟨a, b, s, q, t, z⟩ = .agg #[.int .i64 a, .int .i64 b, .int .i64 s, .int .i64 q, .int .i64 t, .int .u64 z] from rfl]
  have hE : PCfg.right ⟨a, b, s, q, t, z⟩ = (decide (1 ≤ a ∧ a ≤ 32) && decide (1 ≤ b ∧ b ≤ 8) && decide (1 ≤ s ∧ s ≤ 64) && decide (0 ≤ q ∧ q ≤ 64) && decide (0 ≤ t ∧ t ≤ 8)) := rfl
  rw [hE]
  clear hE
  have W1 := fun W => within_any a 1 32 W
  have W2 := fun W => within_any b 1 8 W
  have W3 := fun W => within_any s 1 64 W
  have W4 := fun W => within_any q 0 64 W
  have W5 := fun W => within_any t 0 8 W
  generalize decide (1 ≤ a ∧ a ≤ 32) = x1 at *
  generalize decide (1 ≤ b ∧ b ≤ 8) = x2 at *
  generalize decide (1 ≤ s ∧ s ≤ 64) = x3 at *
  generalize decide (0 ≤ q ∧ q ≤ 64) = x4 at *
  generalize decide (0 ≤ t ∧ t ≤ 8) = x5 at *
  replace W1 := Lib.hid W1
  replace W2 := Lib.hid W2
  replace W3 := Lib.hid W3
  replace W4 := Lib.hid W4
  replace W5 := Lib.hid W5
  cases x1
  · go_enter Tryz.func15, Tryz.ntmps15
    go_wp2_with fail
    refine (W1.out _).mono ?_; rintro e w1 ⟨rfl, rfl⟩
    go_wp2_with fail
    go_ret
    exact ⟨rfl, Below.more_ (Below.refl _ _) _⟩
  cases x2
  · go_enter Tryz.func15, Tryz.ntmps15
    go_wp2_with fail
    refine (W1.out _).mono ?_; rintro e w1 ⟨rfl, rfl⟩
    go_wp2_with fail
    refine (W2.out _).mono ?_; rintro e w1 ⟨rfl, rfl⟩
    go_wp2_with fail
    go_ret
    exact ⟨rfl, Below.more_ (Below.refl _ _) _⟩
  cases x3
  · go_enter Tryz.func15, Tryz.ntmps15
    go_wp2_with fail
    refine (W1.out _).mono ?_; rintro e w1 ⟨rfl, rfl⟩
    go_wp2_with fail
    refine (W2.out _).mono ?_; rintro e w1 ⟨rfl, rfl⟩
    go_wp2_with fail
    refine (W3.out _).mono ?_; rintro e w1 ⟨rfl, rfl⟩
    go_wp2_with fail
    go_ret
    exact ⟨rfl, Below.more_ (Below.refl _ _) _⟩
  cases x4
  · go_enter Tryz.func15, Tryz.ntmps15
    go_wp2_with fail
    refine (W1.out _).mono ?_; rintro e w1 ⟨rfl, rfl⟩
    go_wp2_with fail
    refine (W2.out _).mono ?_; rintro e w1 ⟨rfl, rfl⟩
    go_wp2_with fail
    refine (W3.out _).mono ?_; rintro e w1 ⟨rfl, rfl⟩
    go_wp2_with fail
    refine (W4.out _).mono ?_; rintro e w1 ⟨rfl, rfl⟩
    go_wp2_with fail
    go_ret
    exact ⟨rfl, Below.more_ (Below.refl _ _) _⟩
  · go_enter Tryz.func15, Tryz.ntmps15
    go_wp2_with fail
    refine (W1.out _).mono ?_; rintro e w1 ⟨rfl, rfl⟩
    go_wp2_with fail
    refine (W2.out _).mono ?_; rintro e w1 ⟨rfl, rfl⟩
    go_wp2_with fail
    refine (W3.out _).mono ?_; rintro e w1 ⟨rfl, rfl⟩
    go_wp2_with fail
    refine (W4.out _).mono ?_; rintro e w1 ⟨rfl, rfl⟩
    go_wp2_with fail
    refine (W5.out _).mono ?_; rintro e w1 ⟨rfl, rfl⟩
    go_wp2_with fail
    go_ret
    exact ⟨by simp, Below.more_ (Below.refl _ _) _⟩
theorem ring_any (c : PCfg) (h : c.Right) (w : World) : Calls Tryz.prog 107 #[c.val] w fun e w' => e = .returned (.int .i64 (3 + c.pins)) ∧ Below w.heap.size w w' := by
  obtain ⟨a, b, s, q, t, z⟩ := c
  rw [show PCfg.val ⟨a, b, s, q, t, z⟩ = .agg #[.int .i64 a, .int .i64 b, .int .i64 s, .int .i64 q, .int .i64 t, .int .u64 z] from rfl]
  have h1 : 1 ≤ b ∧ b ≤ 8 := h.pins
  go_enter Tryz.func107, Tryz.ntmps107
  go_wp2
  go_ret
  exact ⟨by simp, Below.more_ (Below.refl _ _) _⟩
set_option maxHeartbeats 1000000 in
theorem shelves_any (c : PCfg) (h : c.Right) (w : World) : Calls Tryz.prog 75 #[c.val] w fun e w' => e = .returned (.int .i64 (3 + c.pins + c.cap)) ∧ Below w.heap.size w w' := by
  have hR := fun W => ring_any c h W
  obtain ⟨a, b, s, q, t, z⟩ := c
  rw [show PCfg.val ⟨a, b, s, q, t, z⟩ = .agg #[.int .i64 a, .int .i64 b, .int .i64 s, .int .i64 q, .int .i64 t, .int .u64 z] from rfl] at *
  have h1 : 1 ≤ b ∧ b ≤ 8 := h.pins
  have h2 : 1 ≤ a ∧ a ≤ 32 := h.cap
  have hw : IntKind.i64.wrap (3 + b + a) = 3 + b + a := IntWalk.i64_in _ (by omega)
  have B1 := Blk.new w 24 #[.int .i64 a, .int .i64 b, .int .i64 s, .int .i64 q, .int .i64 t, .int .u64 z]
  have hz : Below w.heap.size w (w.alloc (.cells #[.int .i64 a, .int .i64 b, .int .i64 s, .int .i64 q, .int .i64 t, .int .u64 z] 24)) := (Below.refl _ _).alloc (Nat.le_refl _) _
  replace B1 := Lib.hid B1
  replace hz := Lib.hid hz
  replace hR := Lib.hid hR
  go_enter Tryz.func75, Tryz.ntmps75
  go_wp2_with fail
  go_region_with (go_at_call 107; refine (hR.out _).mono ?_; rintro e w1 ⟨rfl, hb⟩; have c0 := (Blk.below (w := (w.alloc (.cells #[.int .i64 a, .int .i64 b, .int .i64 s, .int .i64 q, .int .i64 t, .int .u64 z] 24)).drew) B1.out hb (by simp)).cell 0)
  all_goals
    go_wp2
    go_ret
    refine ⟨by simp [Act.put], ?_⟩
    have hb' := nx (b := (w.alloc (.cells #[.int .i64 a, .int .i64 b, .int .i64 s, .int .i64 q, .int .i64 t, .int .u64 z] 24)).drew) hz.out.drew (Nat.le_refl _) hb
    first | exact hb' | exact hb'.drew | exact below_drewN hb' _
set_option maxHeartbeats 1000000 in
theorem planSize_any (c : PCfg) (h : c.Right) (w : World) : Calls Tryz.prog 59 #[c.val] w fun e w' => e = .returned (.int .i64 (3 + c.pins + c.cap + 2 * c.shelves)) ∧ Below w.heap.size w w' := by
  have hR := fun W => right_cfg c W
  rw [(PCfg.right_iff c).2 h] at hR
  have hS := fun W => shelves_any c h W
  obtain ⟨a, b, s, q, t, z⟩ := c
  rw [show PCfg.val ⟨a, b, s, q, t, z⟩ = .agg #[.int .i64 a, .int .i64 b, .int .i64 s, .int .i64 q, .int .i64 t, .int .u64 z] from rfl] at *
  have h1 : 1 ≤ b ∧ b ≤ 8 := h.pins
  have h2 : 1 ≤ a ∧ a ≤ 32 := h.cap
  have h3 : 1 ≤ s ∧ s ≤ 64 := h.shelves
  have hw0 : IntKind.i64.wrap (2 * s) = 2 * s := IntWalk.i64_in _ (by omega)
  have hw : IntKind.i64.wrap (3 + b + a + 2 * s) = 3 + b + a + 2 * s := IntWalk.i64_in _ (by omega)
  have B1 := Blk.new w 24 #[.int .i64 a, .int .i64 b, .int .i64 s, .int .i64 q, .int .i64 t, .int .u64 z]
  have hz : Below w.heap.size w (w.alloc (.cells #[.int .i64 a, .int .i64 b, .int .i64 s, .int .i64 q, .int .i64 t, .int .u64 z] 24)) := (Below.refl _ _).alloc (Nat.le_refl _) _
  replace B1 := Lib.hid B1
  replace hz := Lib.hid hz
  replace hR := Lib.hid hR
  replace hS := Lib.hid hS
  go_enter Tryz.func59, Tryz.ntmps59
  go_wp2_with fail
  refine (hR.out _).mono ?_; rintro e w1 ⟨rfl, hb⟩
  have hz1 := nx hz.out (Nat.le_refl _) hb
  have B2 := B1.out.below hb (by simp)
  have hs1 : w.heap.size < w1.heap.size := B2.lt
  have d0 := B2.cell 0
  have d1 := B2.cell 1
  have d2 := B2.cell 2
  have d3 := B2.cell 3
  have d4 := B2.cell 4
  have d5 := B2.cell 5
  clear hb
  replace hz1 := Lib.hid hz1
  replace B2 := Lib.hid B2
  go_wp2_with fail
  go_region_with (go_at_call 75; refine (hS.out _).mono ?_; rintro e w2 ⟨rfl, hb⟩; have c2 := (Blk.below (w := w1.drew) B2.out hb hs1).cell 2)
  all_goals
    go_wp2
    go_ret
    refine ⟨by simp [Act.put], ?_⟩
    have hb' := nx (b := w1.drew) hz1.out.drew (Nat.le_refl _) hb
    first | exact hb' | exact hb'.drew | exact below_drewN hb' _
set_option maxHeartbeats 1000000 in
theorem planPin_any (c : PCfg) (h : c.Right) (i : Int) (hi : 0 ≤ i ∧ i < c.pins) (w : World) : Calls Tryz.prog 28 #[c.val, .int .i64 i] w fun e w' => e = .returned (.int .i64 (3 + i)) ∧ Below w.heap.size w w' := by
  have hR := fun W => right_cfg c W
  rw [(PCfg.right_iff c).2 h] at hR
  have hW := fun W => within_any i 0 (c.pins - 1) W
  rw [show decide (0 ≤ i ∧ i ≤ c.pins - 1) = true from by simp; omega] at hW
  obtain ⟨a, b, s, q, t, z⟩ := c
  rw [show PCfg.val ⟨a, b, s, q, t, z⟩ = .agg #[.int .i64 a, .int .i64 b, .int .i64 s, .int .i64 q, .int .i64 t, .int .u64 z] from rfl] at *
  have h1 : 1 ≤ b ∧ b ≤ 8 := h.pins
  have hi2 : i < b := hi.2
  have hw0 : IntKind.i64.wrap (b - 1) = b - 1 := IntWalk.i64_in _ (by omega)
  have hw : IntKind.i64.wrap (3 + i) = 3 + i := IntWalk.i64_in _ (by omega)
  have B1 := Blk.new w 24 #[.int .i64 a, .int .i64 b, .int .i64 s, .int .i64 q, .int .i64 t, .int .u64 z]
  have hz : Below w.heap.size w (w.alloc (.cells #[.int .i64 a, .int .i64 b, .int .i64 s, .int .i64 q, .int .i64 t, .int .u64 z] 24)) := (Below.refl _ _).alloc (Nat.le_refl _) _
  replace B1 := Lib.hid B1
  replace hz := Lib.hid hz
  replace hR := Lib.hid hR
  replace hW := Lib.hid hW
  go_enter Tryz.func28, Tryz.ntmps28
  go_wp2_with fail
  refine (hR.out _).mono ?_; rintro e w1 ⟨rfl, hb⟩
  have hz1 := nx hz.out (Nat.le_refl _) hb
  have d1 := (B1.out.below hb (by simp)).cell 1
  clear hb
  replace hz1 := Lib.hid hz1
  go_wp2_with fail
  refine (hW.out _).mono ?_; rintro e w2 ⟨rfl, rfl⟩
  go_wp2_with fail
  go_ret
  exact ⟨rfl, hz1.out⟩
set_option maxHeartbeats 1000000 in
theorem planKey_any (c : PCfg) (h : c.Right) (i : Int) (hi : 0 ≤ i ∧ i < c.shelves) (w : World) : Calls Tryz.prog 39 #[c.val, .int .i64 i] w fun e w' => e = .returned (.int .i64 (3 + c.pins + c.cap + 2 * i)) ∧ Below w.heap.size w w' := by
  have hR := fun W => right_cfg c W
  rw [(PCfg.right_iff c).2 h] at hR
  have hS := fun W => shelves_any c h W
  have hW := fun W => within_any i 0 (c.shelves - 1) W
  rw [show decide (0 ≤ i ∧ i ≤ c.shelves - 1) = true from by simp; omega] at hW
  obtain ⟨a, b, s, q, t, z⟩ := c
  rw [show PCfg.val ⟨a, b, s, q, t, z⟩ = .agg #[.int .i64 a, .int .i64 b, .int .i64 s, .int .i64 q, .int .i64 t, .int .u64 z] from rfl] at *
  have h1 : 1 ≤ b ∧ b ≤ 8 := h.pins
  have h2 : 1 ≤ a ∧ a ≤ 32 := h.cap
  have h3 : 1 ≤ s ∧ s ≤ 64 := h.shelves
  have hi2 : i < s := hi.2
  have hw0 : IntKind.i64.wrap (s - 1) = s - 1 := IntWalk.i64_in _ (by omega)
  have hw1 : IntKind.i64.wrap (2 * i) = 2 * i := IntWalk.i64_in _ (by omega)
  have hw : IntKind.i64.wrap (3 + b + a + 2 * i) = 3 + b + a + 2 * i := IntWalk.i64_in _ (by omega)
  have B1 := Blk.new w 24 #[.int .i64 a, .int .i64 b, .int .i64 s, .int .i64 q, .int .i64 t, .int .u64 z]
  have hz : Below w.heap.size w (w.alloc (.cells #[.int .i64 a, .int .i64 b, .int .i64 s, .int .i64 q, .int .i64 t, .int .u64 z] 24)) := (Below.refl _ _).alloc (Nat.le_refl _) _
  replace B1 := Lib.hid B1
  replace hz := Lib.hid hz
  replace hR := Lib.hid hR
  replace hW := Lib.hid hW
  replace hS := Lib.hid hS
  go_enter Tryz.func39, Tryz.ntmps39
  go_wp2_with fail
  refine (hR.out _).mono ?_; rintro e w1 ⟨rfl, hb⟩
  have hz1 := nx hz.out (Nat.le_refl _) hb
  have B2 := B1.out.below hb (by simp)
  have d0 := B2.cell 0
  have d1 := B2.cell 1
  have d2 := B2.cell 2
  have d3 := B2.cell 3
  have d4 := B2.cell 4
  have d5 := B2.cell 5
  clear hb
  replace B2 := Lib.hid B2
  replace hz1 := Lib.hid hz1
  go_wp2_with fail
  refine (hW.out _).mono ?_; rintro e w2 ⟨rfl, rfl⟩
  go_wp2_with fail
  refine (hS.out _).mono ?_; rintro e w2 ⟨rfl, hb⟩
  go_wp2_with fail
  go_ret
  exact ⟨rfl, nx hz1.out (Nat.le_refl _) hb⟩
set_option maxHeartbeats 1000000 in
theorem planHead_any (c : PCfg) (h : c.Right) (i : Int) (hi : 0 ≤ i ∧ i < c.shelves) (w : World) : Calls Tryz.prog 82 #[c.val, .int .i64 i] w fun e w' => e = .returned (.int .i64 (3 + c.pins + c.cap + 2 * i + 1)) ∧ Below w.heap.size w w' := by
  have hK := fun W => planKey_any c h i hi W
  obtain ⟨a, b, s, q, t, z⟩ := c
  rw [show PCfg.val ⟨a, b, s, q, t, z⟩ = .agg #[.int .i64 a, .int .i64 b, .int .i64 s, .int .i64 q, .int .i64 t, .int .u64 z] from rfl] at *
  have h1 : 1 ≤ b ∧ b ≤ 8 := h.pins
  have h2 : 1 ≤ a ∧ a ≤ 32 := h.cap
  have h3 : 1 ≤ s ∧ s ≤ 64 := h.shelves
  have hi2 : i < s := hi.2
  have d9 : decide ((0 : Int) ≤ 3 + b + a + 2 * i) = true := by simp; omega
  have hw : IntKind.i64.wrap (3 + b + a + 2 * i + 1) = 3 + b + a + 2 * i + 1 := IntWalk.i64_in _ (by omega)
  have hz : Below w.heap.size w (w.alloc (.cells #[.int .i64 a, .int .i64 b, .int .i64 s, .int .i64 q, .int .i64 t, .int .u64 z] 24)) := (Below.refl _ _).alloc (Nat.le_refl _) _
  replace hz := Lib.hid hz
  replace hK := Lib.hid hK
  go_enter Tryz.func82, Tryz.ntmps82
  go_wp2_with fail
  refine (hK.out _).mono ?_; rintro e w1 ⟨rfl, hb⟩
  have hz1 := nx hz.out (Nat.le_refl _) hb
  go_wp2_with fail
  go_ret
  exact ⟨rfl, hz1⟩
end Go.Proofs.YtmlnhjfdhjachaaGreat
