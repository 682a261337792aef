/-
  The routine that hands an operation in (layer 29): its next act, of the last part. No condition.
-/
import Derived.Test.YtfelkkbgbgnpaaaHand
namespace Go.Proofs.Ytfelkkbgbgnpaaa
set_option linter.unusedVariables false
open Go.ChangeShapes Go.WideShapes Go.ChangeAt Go.RowKit
open Go.ChangeMaps (setBlock)

set_option maxRecDepth 100000 in
set_option maxHeartbeats 4000000 in
theorem handAct3_any {w : World} {b : Nat} {cfg : PCfg} {text : ByteArray} {pv : Value} {full : Bool} {ticket record ra : Int} (hBc : Blk w b 165 #[.int .i64 cfg.cap, .int .i64 cfg.pins, .int .i64 cfg.shelves, .int .i64 cfg.queue, .int .i64 cfg.watchers, .int .u64 cfg.seed, .string text, .int .i64 3, pv, .bool full, .int .i64 ticket, .int .u64 record])
    (hP : ∀ W : World, Calls Try.prog 89 #[.agg #[.int .i64 cfg.cap, .int .i64 cfg.pins, .int .i64 cfg.shelves, .int .i64 cfg.queue, .int .i64 cfg.watchers, .int .u64 cfg.seed], .int .i64 ticket, .int .u64 record] W fun e w' => e = .returned (.agg #[.int .i64 2, .int .u64 1, .int .i64 ra, .int .u64 0, .int .u64 record, .string ⟨#[]⟩]) ∧ Below W.heap.size W w') :
    Calls Try.prog 36 #[.pointer (some ⟨b, 0, none⟩)] w fun e w' => e = .returned (.tuple #[.agg #[.int .i64 2, .int .u64 1, .int .i64 ra, .int .u64 0, .int .u64 record, .string ⟨#[]⟩], .bool true]) ∧ Below w.heap.size w w' := by
  have hz : Below w.heap.size w (w.alloc (.cells #[.int .i64 0, .int .u64 0, .int .i64 0, .int .u64 0, .int .u64 0, .string ⟨#[]⟩] 31)) := (Below.refl _ _).alloc (Nat.le_refl _) _
  have B0 := Blk.new w 31 #[.int .i64 0, .int .u64 0, .int .i64 0, .int .u64 0, .int .u64 0, .string ⟨#[]⟩]
  have c7 := hBc.cell 7
  have hlt := hBc.lt
  have hO := fun W => handOne_any 2 1 ra 0 record ⟨#[]⟩ (by decide) W
  replace hO := Lib.hid hO
  replace hP := Lib.hid hP
  replace hBc := Lib.hid hBc
  replace hz := Lib.hid hz
  replace B0 := Lib.hid B0
  obtain ⟨W, hW⟩ : ∃ W, W = w.alloc (.cells #[.int .i64 0, .int .u64 0, .int .i64 0, .int .u64 0, .int .u64 0, .string ⟨#[]⟩] 31) := ⟨_, rfl⟩
  have hBw := hBc.out.alloc (.cells #[.int .i64 0, .int .u64 0, .int .i64 0, .int .u64 0, .int .u64 0, .string ⟨#[]⟩] 31)
  have B0w := B0.out
  have hzw := hz.out
  rw [← hW] at hBw B0w hzw
  have v0 := hBw.cell 0
  have v1 := hBw.cell 1
  have v2 := hBw.cell 2
  have v3 := hBw.cell 3
  have v4 := hBw.cell 4
  have v5 := hBw.cell 5
  have v10 := hBw.cell 10
  have v11 := hBw.cell 11
  clear hBw
  replace B0w := Lib.hid B0w
  replace hzw := Lib.hid hzw
  go_enter Try.func36, Try.ntmps36
  go_wp2_with fail
  rw [← hW]
  replace hW := Lib.hid hW
  clear c7
  go_region_with (first | (go_at_call 89; refine (hP.out _).mono ?_; rintro e w0 ⟨rfl, hb0⟩; have B0' := Blk.below (w := W.drew) B0w.out hb0 B0w.out.lt; have hb0' := nx (b := W.drew) hzw.out.drew (Nat.le_refl _) hb0; clear hb0; replace B0' := Lib.hid B0'; replace hb0' := Lib.hid hb0') | (go_at_call 91; refine (hO.out _).mono ?_; rintro e w1 ⟨rfl, hb⟩; have B1 := B0'.out.below hb B0'.out.lt; have hb1 := nx hb0'.out (Nat.le_refl _) hb; clear hb; have b1c0 := B1.cell 0; have b1c1 := B1.cell 1; have b1c2 := B1.cell 2; have b1c3 := B1.cell 3; have b1c4 := B1.cell 4; have b1c5 := B1.cell 5; have b1f0 := B1.frozen 0; have b1f1 := B1.frozen 1; have b1f2 := B1.frozen 2; have b1f3 := B1.frozen 3; have b1f4 := B1.frozen 4; have b1f5 := B1.frozen 5; replace B1 := Lib.hid B1; replace hb1 := Lib.hid hb1))
  all_goals go_wp2_with fail
  all_goals
    refine gen_world (α := fun W' => bodyPost _ _ _ _ _ W') (fun W' => Blk W' w.heap.size 31 #[.int .i64 2, .int .u64 1, .int .i64 ra, .int .u64 0, .int .u64 record, .string ⟨#[]⟩] ∧ Below w.heap.size w W') ⟨Blk.eq_cs ((((((B1.out.set_ 0 _).set_ 1 _).set_ 2 _).set_ 3 _).set_ 4 _).set_ 5 _) rfl, ?_⟩ ?_
    · repeat (refine Below.setCell ?_ (by exact Nat.le_refl _) _)
      exact hb1.out
    rintro W' ⟨g1, g2⟩
    have e0 := g1.cell 0
    have e1 := g1.cell 1
    have e2 := g1.cell 2
    have e3 := g1.cell 3
    have e4 := g1.cell 4
    have e5 := g1.cell 5
    exact bodyPost_ret (v := .tuple #[.agg #[.int .i64 2, .int .u64 1, .int .i64 ra, .int .u64 0, .int .u64 record, .string ⟨#[]⟩], .bool true]) (by simp [results, Try.results36, go_sem, e0, e1, e2, e3, e4, e5]) rfl ⟨rfl, g2⟩
end Go.Proofs.Ytfelkkbgbgnpaaa
