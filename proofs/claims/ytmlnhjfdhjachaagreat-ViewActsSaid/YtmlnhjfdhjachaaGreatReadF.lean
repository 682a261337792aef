/-
  The document's reading on a tape (layer 26): the walk. No condition.
-/
import Derived.Test.YtmlnhjfdhjachaaGreatReadE
namespace Go.Proofs.YtmlnhjfdhjachaaGreat
set_option linter.unusedVariables false
open Go.ChangeShapes Go.WideShapes Go.ChangeAt Go.RowKit
open Go.ChangeMaps (setBlock)

set_option maxRecDepth 100000 in
set_option maxHeartbeats 2000000 in
theorem refFree_any {w : World} {tb cc : Nat} {A : Option Addr} {T : PTape} (h : TapeIn w tb A cc T) (c : PCfg) (hc : c.Right) (p : Int) (hp : 0 ≤ p ∧ p < c.pins) :
    Calls Tryz.prog 47 #[.pointer (some ⟨tb, 0, none⟩), c.val, .int .i64 p] w fun e w' => e = .returned (.tuple #[]) ∧ TapeIn w' tb A cc (T.doAct ⟨2, 1, 3 + p, 0, 0, ByteArray.empty⟩).2 ∧ Chg (fun k => k = tb) w w' := by
  have hR := fun W => refPinAt c hc p.toNat (by omega) W
  rw [show ((3 + p.toNat : Nat) : Int) = 3 + p by omega, show ((p.toNat : Nat) : Int) = p by omega] at hR
  have hS := fun W (hW : TapeIn W tb A cc T) => tape_store hW 1 (3 + p) 0
  rw [show c.val = .agg #[.int .i64 c.cap, .int .i64 c.pins, .int .i64 c.shelves, .int .i64 c.queue, .int .i64 c.watchers, .int .u64 c.seed] from rfl] at hR ⊢
  have hz : Below w.heap.size w (w.alloc (.cells #[.int .i64 c.cap, .int .i64 c.pins, .int .i64 c.shelves, .int .i64 c.queue, .int .i64 c.watchers, .int .u64 c.seed] 24)) := (Below.refl _ _).alloc (Nat.le_refl _) _
  clear hc hp
  replace h := Lib.hid h
  replace hR := Lib.hid hR
  replace hS := Lib.hid hS
  replace hz := Lib.hid hz
  go_enter Tryz.func47, Tryz.ntmps47
  go_wp2_with fail
  refine (hR.out _).mono ?_; rintro e w1 ⟨rfl, hb⟩
  have hz1 := nx hz.out (Nat.le_refl _) hb
  replace hz1 := Lib.hid hz1
  clear hb
  go_wp2_with fail
  refine (hS.out _ (h.out.below hz1.out)).mono ?_; rintro e w2 ⟨rfl, h2, h3⟩
  have hC := (Chg.of_below hz1.out (fun k => k = tb)).trans h3 fun i hi => Or.inl hi
  clear h3
  replace h2 := Lib.hid h2
  replace hC := Lib.hid hC
  go_wp2_with fail
  exact bodyPost_end (v := .tuple #[]) (results_none (by kernel_rfl) _ _ _) rfl ⟨rfl, h2.out, hC.out⟩
/-- What the document's reading leaves. -/
def ReadPost (c : PCfg) (th : Int) (key : ByteArray) (Q : List PGot) (w : World) (tb : Nat) (A : Option Addr) (cc : Nat) (e : Ending) (w' : World) : Prop :=
  ∃ T' code took value mark, e = .returned (.agg #[.int .i64 code, .int .i64 0, .int .i64 0, .bool took, .string value, .slice none 0 0, .int .i64 0, .slice none 0 0, .int .i64 mark, .int .u64 0]) ∧ TapeIn w' tb A cc T' ∧ Chg (fun k => k = tb) w w' ∧ ReadEnd c th key Q T' code took value mark
end Go.Proofs.YtmlnhjfdhjachaaGreat
