/-
  The law's few and wrong (layer 9). No condition.
-/
import Derived.Test.YtpmnppjiipbonaaDoorOrp
import Derived.Test.YtpmnppjiipbonaaDoorOpX
namespace Go.Proofs.YtpmnppjiipbonaaDoor
set_option linter.unusedVariables false
open Go.RowKit Go.Extern.Stop Go.Stop Go.Extern Go.ChangeShapes

set_option maxRecDepth 100000 in
set_option maxHeartbeats 4000000 in
theorem wrong09_any {w : World} {sv : Nat → Addr} (S : Sent w sv) (T : ETy w) (v : Value) (c a pt : Int) (hv : (c = 0 ∧ v = .nilIface) ∨ (c ≠ 0 ∧ ErrIs w sv v (if pt < 0 then [a] else [pt, a]) (sIdx c) ∧ sCode (sIdx c) = c)) :
    Calls Tryd.prog 30 #[v, .agg #[.int .i64 c, .int .i64 a, .int .i64 pt]] w fun e w' => e = .returned (.bool true) ∧ Below w.heap.size w w' := by
  have hA : Below w.heap.size w (w.alloc (.cells #[.int .i64 c, .int .i64 a, .int .i64 pt] 60)) := (Below.refl _ _).alloc (Nat.le_refl _) _
  have hBx := Lib.hid (Blk.new w 60 #[.int .i64 c, .int .i64 a, .int .i64 pt])
  rcases hv with ⟨rfl, rfl⟩ | ⟨h0, hv, hc⟩
  · clear S T
    replace hA := Lib.hid hA
    go_enter Tryd.func30, Tryd.ntmps30
    go_wp2_with fail
    go_ret
    exact ⟨rfl, hA.out⟩
  · have hE1 := ErrIs.under hA hv
    have hcd := fun n => code_any (w := (w.alloc (.cells #[.int .i64 c, .int .i64 a, .int .i64 pt] 60)).drewN n) (sv := sv) ((S.below hA).below (below_drewN (Below.refl _ _) n)) v _ (sIdx c) (ErrIs.under (below_drewN (Below.refl _ _) n) hE1)
    rw [hc] at hcd
    have h0b : (c == 0) = false := beq_eq_false_iff_ne.2 h0
    obtain ⟨ty, u, rfl⟩ := hv.iface
    have hpl : (if pt < 0 then [a] else [pt, a]).length ≤ 1000000 := by split <;> simp
    have hP := fun W (hW : Below (w.alloc (.cells #[.int .i64 c, .int .i64 a, .int .i64 pt] 60)).heap.size (w.alloc (.cells #[.int .i64 c, .int .i64 a, .int .i64 pt] 60)) W) => places_any ((T.below hA).below hW) (.iface ty u) _ (sIdx c) (ErrIs.under hW hE1) hpl
    replace hP := Lib.hid hP
    replace hcd := Lib.hid hcd
    replace hv := Lib.hid hv
    replace hE1 := Lib.hid hE1
    replace hA := Lib.hid hA
    replace hc := Lib.hid hc
    replace h0 := Lib.hid h0
    clear S T
    go_enter Tryd.func30, Tryd.ntmps30
    go_wp2_with fail
    go_quiet ((go_at_call 27; exact Calls.quiet_of_same ((hcd.out _).mono fun _ _ hp => ⟨hp.1, hp.2.symm⟩)))
    go_wp2_with fail
    refine (hP.out _ (below_drewN (Below.refl _ _) _)).mono ?_; rintro e w1 ⟨r, rfl, hown, hb⟩
    have hsz : w.heap.size < (w.alloc (.cells #[.int .i64 c, .int .i64 a, .int .i64 pt] 60)).heap.size := by simp
    have hb0 : Below w.heap.size w w1 := Below.next_ (below_drewN hA.out nq) hb
    have hB1 : Blk w1 w.heap.size 60 #[.int .i64 c, .int .i64 a, .int .i64 pt] := (hBx.out.drewN nq).below hb (hBx.out.drewN nq).lt
    have k1 := hB1.cell 1
    have k2 := hB1.cell 2
    replace hb0 := Lib.hid hb0
    replace hB1 := Lib.hid hB1
    clear hb
    by_cases hpt : pt < 0
    · have hptb : decide (pt < 0) = true := decide_eq_true hpt
      rw [if_pos hpt] at hown
      have hown : w1.ownsRow _ 3 1 r 1 (intL [a]) := hown
      obtain ⟨g, cap, rfl, _, _, hcap, hcell⟩ := own_form hown (by simp)
      have g0 := hcell 0 (.int .i64 a) rfl
      clear hcell hown
      go_wp2_with fail
      go_quiet (fail)
      go_wp2_with fail
      go_ret
      exact ⟨rfl, below_drewN hb0.out _⟩
    · have hptb : decide (pt < 0) = false := decide_eq_false hpt
      rw [if_neg hpt] at hown
      have hown : w1.ownsRow _ 3 1 r 2 (intL [pt, a]) := hown
      obtain ⟨g, cap, rfl, _, _, hcap, hcell⟩ := own_form hown (by simp)
      have g0 := hcell 0 (.int .i64 pt) rfl
      have g1 := hcell 1 (.int .i64 a) rfl
      clear hcell hown
      go_wp2_with fail
      go_quiet (fail)
      go_wp2_with fail
      go_ret
      exact ⟨rfl, below_drewN hb0.out _⟩
end Go.Proofs.YtpmnppjiipbonaaDoor
