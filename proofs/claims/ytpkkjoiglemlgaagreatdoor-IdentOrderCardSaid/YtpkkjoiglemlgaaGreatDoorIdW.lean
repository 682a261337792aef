/-
  The law's wrong (layer 12). No condition.
-/
import Derived.Test.YtpkkjoiglemlgaaGreatDoorPlaces
namespace Go.Proofs.YtpkkjoiglemlgaaGreatDoor
set_option linter.unusedVariables false
open Go.RowKit Go.Extern.Stop Go.Stop Go.Extern Go.ChangeShapes

set_option maxRecDepth 100000 in
set_option maxHeartbeats 4000000 in
theorem wrong12_any {w : World} {sv : Nat → Addr} (S : Sent w sv) (T : ETy w) (v : Value) (c a pt : Int) (hv : (c = 0 ∧ v = .nilIface) ∨ (c ≠ 0 ∧ ErrIs w sv v (if pt < 0 then [a] else [pt, a]) (sIdx c) ∧ sCode (sIdx c) = c)) :
    Calls Tryz.prog 17 #[v, .int .i64 c, .int .i64 a, .int .i64 pt] w fun e w' => e = .returned (.bool true) ∧ Below w.heap.size w w' := by
  rcases hv with ⟨rfl, rfl⟩ | ⟨h0, hv, hc⟩
  · clear S T
    go_enter Tryz.func17, Tryz.ntmps17
    go_wp2_with fail
    go_ret
    exact ⟨rfl, Below.refl _ _⟩
  · have h0b : (c == 0) = false := beq_eq_false_iff_ne.2 h0
    have hcd := fun W (hW : Below w.heap.size w W) => code_any (w := W) (sv := sv) (S.below hW) v _ (sIdx c) (ErrIs.under hW hv)
    rw [hc] at hcd
    obtain ⟨ty, u, rfl⟩ := hv.iface
    have hpl : (if pt < 0 then [a] else [pt, a]).length ≤ 1000000 := by split <;> simp
    have hP := places_any T (.iface ty u) _ (sIdx c) hv hpl
    replace hP := Lib.hid hP
    replace hcd := Lib.hid hcd
    replace hv := Lib.hid hv
    replace hc := Lib.hid hc
    replace h0 := Lib.hid h0
    clear S T
    go_enter Tryz.func17, Tryz.ntmps17
    go_wp2_with fail
    refine (hP.out).mono ?_; rintro e w1 ⟨r, rfl, hown, hb⟩
    have hcd1 := hcd.out _ hb
    replace hcd1 := Lib.hid hcd1
    replace hb := Lib.hid hb
    by_cases hpt : pt < 0
    · have hptb : decide (pt < 0) = true := decide_eq_true hpt
      rw [if_pos hpt] at hown
      have hown : w1.ownsRow _ 3 1 r 1 (intL [a]) := hown
      obtain ⟨g, cap, rfl, _, _, hcap, hcell⟩ := own_form hown (by simp)
      have g0 := hcell 0 (.int .i64 a) rfl
      clear hcell hown
      go_wp2_with fail
      refine (hcd1.out).mono ?_; rintro e w2 ⟨rfl, hw⟩
      obtain rfl : w1 = w2 := hw
      go_wp2_with fail
      go_ret
      exact ⟨rfl, hb.out⟩
    · have hptb : decide (pt < 0) = false := decide_eq_false hpt
      rw [if_neg hpt] at hown
      have hown : w1.ownsRow _ 3 1 r 2 (intL [pt, a]) := hown
      obtain ⟨g, cap, rfl, _, _, hcap, hcell⟩ := own_form hown (by simp)
      have g0 := hcell 0 (.int .i64 pt) rfl
      have g1 := hcell 1 (.int .i64 a) rfl
      clear hcell hown
      go_wp2_with fail
      refine (hcd1.out).mono ?_; rintro e w2 ⟨rfl, hw⟩
      obtain rfl : w1 = w2 := hw
      go_wp2_with fail
      go_ret
      exact ⟨rfl, hb.out⟩
end Go.Proofs.YtpkkjoiglemlgaaGreatDoor
