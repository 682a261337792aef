/-
  Freeing a pin; pinning where there is none to pin (layer 25). No condition.
-/
import Derived.Test.YtmlnhjfdhjachaaGreatPin
import Derived.Test.YtmlnhjfdhjachaaGreatCtlO
import Derived.Deep.RegionWith
namespace Go.Proofs.YtmlnhjfdhjachaaGreat
set_option linter.unusedVariables false
open Go.ChangeShapes Go.WideShapes Go.ChangeAt Go.RowKit
open Go.ChangeMaps (setBlock)

set_option maxHeartbeats 1000000 in
theorem planPin_no (c : PCfg) (h : c.Right) (i : Int) (hi : c.pins ≤ i) (w : World) : Calls Tryz.prog 28 #[c.val, .int .i64 i] w fun e w' => e = .returned (.int .i64 (-1)) ∧ Below w.heap.size w w' := by
  have hR := fun W => right_cfg c W
  rw [(PCfg.right_iff c).2 h] at hR
  have hW := fun W => within_any i 0 (c.pins - 1) W
  rw [show decide (0 ≤ i ∧ i ≤ c.pins - 1) = false from by simp; omega] at hW
  obtain ⟨a, b, s, q, t, z⟩ := c
  rw [show PCfg.val ⟨a, b, s, q, t, z⟩ = .agg #[.int .i64 a, .int .i64 b, .int .i64 s, .int .i64 q, .int .i64 t, .int .u64 z] from rfl] at *
  have h1 : 1 ≤ b ∧ b ≤ 8 := h.pins
  have hi2 : b ≤ i := hi
  have hw0 : IntKind.i64.wrap (b - 1) = b - 1 := IntWalk.i64_in _ (by omega)
  have B1 := Blk.new w 24 #[.int .i64 a, .int .i64 b, .int .i64 s, .int .i64 q, .int .i64 t, .int .u64 z]
  have hz : Below w.heap.size w (w.alloc (.cells #[.int .i64 a, .int .i64 b, .int .i64 s, .int .i64 q, .int .i64 t, .int .u64 z] 24)) := (Below.refl _ _).alloc (Nat.le_refl _) _
  replace B1 := Lib.hid B1
  replace hz := Lib.hid hz
  replace hR := Lib.hid hR
  replace hW := Lib.hid hW
  go_enter Tryz.func28, Tryz.ntmps28
  go_wp2_with fail
  refine (hR.out _).mono ?_; rintro e w1 ⟨rfl, hb⟩
  have hz1 := nx hz.out (Nat.le_refl _) hb
  have d1 := (B1.out.below hb (by simp)).cell 1
  clear hb
  replace hz1 := Lib.hid hz1
  go_wp2_with fail
  refine (hW.out _).mono ?_; rintro e w2 ⟨rfl, rfl⟩
  go_wp2_with fail
  go_ret
  exact ⟨rfl, hz1.out⟩
set_option maxHeartbeats 1000000 in
theorem free_any (c : PCfg) (h : c.Right) (i : Int) (hi : 0 ≤ i ∧ i < c.pins) (w : World) : Calls Tryz.prog 41 #[c.val, .int .i64 i] w fun e w' => e = .returned (.agg #[.int .i64 2, .int .u64 1, .int .i64 (3 + i), .int .u64 0, .int .u64 0, .string ⟨#[]⟩]) ∧ Below w.heap.size w w' := by
  have hP := fun W => planPin_any c h i hi W
  obtain ⟨a, b, s, q, t, z⟩ := c
  rw [show PCfg.val ⟨a, b, s, q, t, z⟩ = .agg #[.int .i64 a, .int .i64 b, .int .i64 s, .int .i64 q, .int .i64 t, .int .u64 z] from rfl] at *
  simp only at hi
  have d0 : decide (0 ≤ 3 + i) = true := by simp; omega
  have B1 := (Blk.new w 24 #[.int .i64 a, .int .i64 b, .int .i64 s, .int .i64 q, .int .i64 t, .int .u64 z]).alloc (.cells #[.int .i64 0, .int .u64 0, .int .i64 0, .int .u64 0, .int .u64 0, .string ⟨#[]⟩] 31)
  have R1 := Blk.new (w.alloc (.cells #[.int .i64 a, .int .i64 b, .int .i64 s, .int .i64 q, .int .i64 t, .int .u64 z] 24)) 31 #[.int .i64 0, .int .u64 0, .int .i64 0, .int .u64 0, .int .u64 0, .string ⟨#[]⟩]
  simp only [World.size_alloc] at R1
  have hz : Below w.heap.size w ((w.alloc (.cells #[.int .i64 a, .int .i64 b, .int .i64 s, .int .i64 q, .int .i64 t, .int .u64 z] 24)).alloc (.cells #[.int .i64 0, .int .u64 0, .int .i64 0, .int .u64 0, .int .u64 0, .string ⟨#[]⟩] 31)) := ((Below.refl _ _).alloc (Nat.le_refl _) _).alloc (by simp) _
  replace B1 := Lib.hid B1
  replace R1 := Lib.hid R1
  replace hz := Lib.hid hz
  replace hP := Lib.hid hP
  clear hi h
  go_enter Tryz.func41, Tryz.ntmps41
  go_wp2_with fail
  refine (hP.out _).mono ?_; rintro e w1 ⟨rfl, hb⟩
  have hz1 := nx hz.out (Nat.le_refl _) hb
  have R2 := R1.out.below hb (by simp)
  have f0 := R2.frozen 0
  have g0 := R2.cell 0
  have f1 := R2.frozen 1
  have g1 := R2.cell 1
  have f2 := R2.frozen 2
  have g2 := R2.cell 2
  have f3 := R2.frozen 3
  have g3 := R2.cell 3
  have f4 := R2.frozen 4
  have g4 := R2.cell 4
  have f5 := R2.frozen 5
  have g5 := R2.cell 5
  replace R2 := Lib.hid R2
  replace hz1 := Lib.hid hz1
  clear hb
  go_wp2_with fail
  refine gen_world (α := fun W' => bodyPost _ _ _ _ _ W') (fun W' => Blk W' (w.heap.size + 1) 31 #[.int .i64 2, .int .u64 1, .int .i64 (3 + i), .int .u64 0, .int .u64 0, .string ⟨#[]⟩] ∧ Below w.heap.size w W') ⟨?_, ?_⟩ ?_
  · exact Blk.eq_cs ((((((R2.out.set_ 0 _).set_ 1 _).set_ 2 _).set_ 3 _).set_ 4 _).set_ 5 _) rfl
  · repeat (refine Below.setCell ?_ (by show w.heap.size ≤ w.heap.size + 1; omega) _)
    exact hz1.out
  rintro W' ⟨q1, q2⟩
  have e0 := q1.cell 0
  have e1 := q1.cell 1
  have e2 := q1.cell 2
  have e3 := q1.cell 3
  have e4 := q1.cell 4
  have e5 := q1.cell 5
  exact bodyPost_ret (v := .agg #[.int .i64 2, .int .u64 1, .int .i64 (3 + i), .int .u64 0, .int .u64 0, .string ⟨#[]⟩]) (by simp [results, Tryz.results41, go_sem, e0, e1, e2, e3, e4, e5]) rfl ⟨rfl, q2⟩
set_option maxHeartbeats 1000000 in
theorem free_no (c : PCfg) (h : c.Right) (i : Int) (hi : c.pins ≤ i) (w : World) : Calls Tryz.prog 41 #[c.val, .int .i64 i] w fun e w' => e = .returned (.agg #[.int .i64 0, .int .u64 0, .int .i64 0, .int .u64 0, .int .u64 0, .string ⟨#[]⟩]) ∧ Below w.heap.size w w' := by
  have hP := fun W => planPin_no c h i hi W
  obtain ⟨a, b, s, q, t, z⟩ := c
  rw [show PCfg.val ⟨a, b, s, q, t, z⟩ = .agg #[.int .i64 a, .int .i64 b, .int .i64 s, .int .i64 q, .int .i64 t, .int .u64 z] from rfl] at *
  simp only at hi
  skip
  have B1 := (Blk.new w 24 #[.int .i64 a, .int .i64 b, .int .i64 s, .int .i64 q, .int .i64 t, .int .u64 z]).alloc (.cells #[.int .i64 0, .int .u64 0, .int .i64 0, .int .u64 0, .int .u64 0, .string ⟨#[]⟩] 31)
  have R1 := Blk.new (w.alloc (.cells #[.int .i64 a, .int .i64 b, .int .i64 s, .int .i64 q, .int .i64 t, .int .u64 z] 24)) 31 #[.int .i64 0, .int .u64 0, .int .i64 0, .int .u64 0, .int .u64 0, .string ⟨#[]⟩]
  simp only [World.size_alloc] at R1
  have hz : Below w.heap.size w ((w.alloc (.cells #[.int .i64 a, .int .i64 b, .int .i64 s, .int .i64 q, .int .i64 t, .int .u64 z] 24)).alloc (.cells #[.int .i64 0, .int .u64 0, .int .i64 0, .int .u64 0, .int .u64 0, .string ⟨#[]⟩] 31)) := ((Below.refl _ _).alloc (Nat.le_refl _) _).alloc (by simp) _
  replace B1 := Lib.hid B1
  replace R1 := Lib.hid R1
  replace hz := Lib.hid hz
  replace hP := Lib.hid hP
  clear hi h
  go_enter Tryz.func41, Tryz.ntmps41
  go_wp2_with fail
  refine (hP.out _).mono ?_; rintro e w1 ⟨rfl, hb⟩
  have hz1 := nx hz.out (Nat.le_refl _) hb
  have R2 := R1.out.below hb (by simp)
  have f0 := R2.frozen 0
  have g0 := R2.cell 0
  have f1 := R2.frozen 1
  have g1 := R2.cell 1
  have f2 := R2.frozen 2
  have g2 := R2.cell 2
  have f3 := R2.frozen 3
  have g3 := R2.cell 3
  have f4 := R2.frozen 4
  have g4 := R2.cell 4
  have f5 := R2.frozen 5
  have g5 := R2.cell 5
  replace R2 := Lib.hid R2
  replace hz1 := Lib.hid hz1
  clear hb
  go_wp2_with fail
  refine gen_world (α := fun W' => bodyPost _ _ _ _ _ W') (fun W' => Blk W' (w.heap.size + 1) 31 #[.int .i64 0, .int .u64 0, .int .i64 0, .int .u64 0, .int .u64 0, .string ⟨#[]⟩] ∧ Below w.heap.size w W') ⟨?_, ?_⟩ ?_
  · exact Blk.eq_cs ((((((R2.out.set_ 0 _).set_ 1 _).set_ 2 _).set_ 3 _).set_ 4 _).set_ 5 _) rfl
  · repeat (refine Below.setCell ?_ (by show w.heap.size ≤ w.heap.size + 1; omega) _)
    exact hz1.out
  rintro W' ⟨q1, q2⟩
  have e0 := q1.cell 0
  have e1 := q1.cell 1
  have e2 := q1.cell 2
  have e3 := q1.cell 3
  have e4 := q1.cell 4
  have e5 := q1.cell 5
  exact bodyPost_ret (v := .agg #[.int .i64 0, .int .u64 0, .int .i64 0, .int .u64 0, .int .u64 0, .string ⟨#[]⟩]) (by simp [results, Tryz.results41, go_sem, e0, e1, e2, e3, e4, e5]) rfl ⟨rfl, q2⟩
theorem pinAct_nil (w : World) : Calls Tryz.prog 38 #[.pointer none] w fun e w' => e = .returned (.tuple #[.agg #[.int .i64 0, .int .u64 0, .int .i64 0, .int .u64 0, .int .u64 0, .string ⟨#[]⟩], .bool false]) ∧ Below w.heap.size w w' := by
  go_enter Tryz.func38, Tryz.ntmps38
  go_wp2_with fail
  refine bodyPost_ret (v := .tuple #[.agg #[.int .i64 0, .int .u64 0, .int .i64 0, .int .u64 0, .int .u64 0, .string ⟨#[]⟩], .bool false]) (by simp [results, Tryz.results38, go_sem]) rfl ⟨rfl, ?_⟩
  (repeat first | exact Below.refl _ _ | assumption | refine Below.drew ?_ | refine below_drewN ?_ _ | refine Below.more_ ?_ _ | refine Below.setCell ?_ (by first | exact Nat.le_refl _ | (simp; done) | (simp; omega)) _)
def noPin : PPin := ⟨⟨0, 0, 0, 0, 0, 0⟩, 0, 0, 0, 0, 0, false⟩
theorem noPin_in {w : World} {b : Nat} (h : Blk w b 148 noPin.cells) : PinIn w b noPin :=
  ⟨h, fun e => absurd rfl e, fun e => absurd rfl e, fun e => absurd rfl e, by show (0 : Int) ≤ 0 ∧ (0 : Int) ≤ 5; decide, by show (0 : Int) ≤ 0 ∧ (0 : Int) ≤ 18446744073709551615; decide⟩
set_option maxHeartbeats 1000000 in
theorem pinNew_no (c : PCfg) (th : Int) (hn : c.right = false ∨ th < 0) (w : World) :
    Calls Tryz.prog 37 #[c.val, .int .i64 th] w fun e w' => ∃ b, e = .returned (.pointer (some ⟨b, 0, none⟩)) ∧ PinIn w' b noPin ∧ w.heap.size ≤ b ∧ Below w.heap.size w w' := by
  have hR := fun W => right_cfg c W
  have fin : ∀ (W : World) (b : Nat), Blk W b 148 #[.int .i64 0, .int .i64 0, .int .i64 0, .int .i64 0, .int .i64 0, .int .u64 0, .int .i64 0, .int .i64 0, .int .i64 0, .int .i64 0, .int .u64 0, .bool false] → PinIn W b noPin := fun W b h => noPin_in h
  generalize c.right = rt at *
  generalize noPin = N at *
  obtain ⟨a, b, s, q, t, z⟩ := c
  rw [show PCfg.val ⟨a, b, s, q, t, z⟩ = .agg #[.int .i64 a, .int .i64 b, .int .i64 s, .int .i64 q, .int .i64 t, .int .u64 z] from rfl] at *
  have hz : Below w.heap.size w (w.alloc (.cells #[.int .i64 a, .int .i64 b, .int .i64 s, .int .i64 q, .int .i64 t, .int .u64 z] 24)) := (Below.refl _ _).alloc (Nat.le_refl _) _
  replace hz := Lib.hid hz
  replace hR := Lib.hid hR
  replace fin := Lib.hid fin
  cases rt with
  | false =>
    clear hn
    go_enter Tryz.func37, Tryz.ntmps37
    go_wp2_with fail
    refine (hR.out _).mono ?_; rintro e w1 ⟨rfl, hb⟩
    have hz1 := nx hz.out (Nat.le_refl _) hb
    clear hb
    replace hz1 := Lib.hid hz1
    go_wp2_with fail
    go_ret
    exact ⟨w1.heap.size, rfl, fin.out _ _ (Blk.new w1 _ _), hz1.out.size, hz1.out.alloc hz1.out.size _⟩
  | true =>
    have hn0 : decide (th < 0) = true := by simpa using hn
    clear hn
    go_enter Tryz.func37, Tryz.ntmps37
    go_wp2_with fail
    refine (hR.out _).mono ?_; rintro e w1 ⟨rfl, hb⟩
    have hz1 := nx hz.out (Nat.le_refl _) hb
    clear hb
    replace hz1 := Lib.hid hz1
    go_wp2_with fail
    go_ret
    exact ⟨w1.heap.size, rfl, fin.out _ _ (Blk.new w1 _ _), hz1.out.size, hz1.out.alloc hz1.out.size _⟩
end Go.Proofs.YtmlnhjfdhjachaaGreat
