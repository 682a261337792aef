/-
  opcode's told: an error, with its part. No condition.
-/
import Derived.Test.YtpmnppjiipbonaaDoorPts
import Derived.Test.YtpmnppjiipbonaaDoorAsF
namespace Go.Proofs.YtpmnppjiipbonaaDoor
set_option linter.unusedVariables false
open Go.RowKit Go.Extern.Stop Go.Stop Go.Extern Go.ChangeShapes

set_option maxHeartbeats 2000000 in
theorem told_at {w : World} {sv : Nat → Addr} (T : ETy w) (v : Value) (p : Int) (i : Nat) (h : ErrIs w sv v [p] i) :
    Calls Tryd.prog 57 #[v] w fun e w' => e = .returned v ∧ Below w.heap.size w w' := by
  obtain ⟨b, u, rfl, hB, hi, rfl⟩ := h
  have hb0 : Below w.heap.size w (w.alloc (.cells #[.pointer none] 131)) := (Below.refl _ _).alloc (Nat.le_refl _) _
  have hC := Lib.hid (fas_chain b p (.pointer (some (sv i))) ⟨w.heap.size, 0, none⟩ _ (T.below hb0) (hB.alloc _))
  replace hB := Lib.hid hB
  replace T := Lib.hid T
  go_enter Tryd.func57, Tryd.ntmps57
  go_wp2_with fail
  refine (hC.out).mono ?_; rintro e w1 ⟨rfl, hb1⟩
  go_wp2_with fail
  go_ret
  exact ⟨rfl, hb0.trans (hb1.mono (by simp))⟩
set_option maxRecDepth 100000 in
set_option maxHeartbeats 2000000 in
theorem told_fault {w : World} {sv : Nat → Addr} (T : ETy w) (fb : Nat) (part : Int) (u : Value) (pl : Int) (i : Nat) (hF : Blk w fb 133 #[.int .i64 part, u]) (hE : ErrIs w sv u [pl] i) :
    Calls Tryd.prog 57 #[.iface 131 (.pointer (some ⟨fb, 0, none⟩))] w fun e w' => ∃ v, e = .returned v ∧ ErrIs w' sv v [part, pl] i ∧ Below w.heap.size w w' := by
  have hb0 : Below w.heap.size w (w.alloc (.cells #[.pointer none] 131)) := (Below.refl _ _).alloc (Nat.le_refl _) _
  have hC := Lib.hid (fas_at fb ⟨w.heap.size, 0, none⟩ (.pointer none) _ (T.below hb0) ((Blk.new w 131 #[.pointer none]).cell 0) ((Blk.new w 131 #[.pointer none]).frozen 0))
  obtain ⟨ty, uu, rfl⟩ := hE.iface
  have hfl := hF.lt
  replace hF := Lib.hid hF
  replace hE := Lib.hid hE
  replace T := Lib.hid T
  go_enter Tryd.func57, Tryd.ntmps57
  go_wp2_with fail
  refine (hC.out).mono ?_; rintro e w1 ⟨rfl, hc1, hb1, hs1⟩
  have hb2 : Below w.heap.size w w1 := hb0.trans (hb1.mono (Nat.le_refl _))
  have hF1 := hF.out.below hb2 hfl
  have hE1 := ErrIs.under hb2 hE.out
  have c0 := hF1.cell 0
  have c1 := hF1.cell 1
  have hA := Lib.hid (fun (W : World) (hW : Below w1.heap.size w1 W) => at_any (w := W) (sv := sv) part (.iface ty uu) [pl] i (ErrIs.under hW hE1))
  have hd : Below w1.heap.size w1 w1.drew := (Below.refl _ _).drew
  replace hF1 := Lib.hid hF1
  replace hE1 := Lib.hid hE1
  go_wp2_with fail
  go_region_held3 (fun W => Below w1.heap.size w1 W ∧ W.cell? ⟨w.heap.size, 0, none⟩ = some (.pointer (some ⟨fb, 0, none⟩)) ∧ W.cell? ⟨fb, 0, none⟩ = some (.int .i64 part) ∧ W.cell? ⟨fb, 1, none⟩ = some (.iface ty uu))
    (first | assumption | go_keep)
    (first | (go_at_call 51; refine (hA.out _ (by assumption)).mono ?_; rintro e w8 ⟨v', rfl, hv8, hb8⟩; have hz8 := Below.next_ (by assumption : Below w1.heap.size w1 _) hb8; have k0 := (hz8.cell (p := ⟨w.heap.size, 0, none⟩) (cell_lt hc1)).trans hc1; have k1 := (hF1.out.below hz8 hF1.out.lt).cell 0; have k2 := (hF1.out.below hz8 hF1.out.lt).cell 1; replace hv8 := Lib.hid hv8))
  all_goals
    go_wp2_with fail
    go_ret
    exact ⟨_, rfl, hv8.out, hb2.trans (hz8.mono hb2.size)⟩
end Go.Proofs.YtpmnppjiipbonaaDoor
