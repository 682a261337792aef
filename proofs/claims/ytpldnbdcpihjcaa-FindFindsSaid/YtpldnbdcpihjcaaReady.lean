/-
  act.Ready on a heap. No condition.
-/
import Derived.Test.YtpldnbdcpihjcaaDo2
import Derived.Deep.QuietTactic
import Derived.BigQuiet
namespace Go.Proofs.Ytpldnbdcpihjcaa
set_option linter.unusedVariables false
open Go.ChangeShapes Go.WideShapes Go.ChangeAt Go.RowKit
open Go.ChangeMaps (setBlock)

section
variable {w : World} {hb : Nat} {S : PHeap} {F : Nat → Prop} (h : HeapIn w hb S F)
include h
set_option maxRecDepth 100000 in
theorem ready_any (x : PAct) (hx : x.Ok) (hf : S.faults < 9223372036854775807) :
    Calls Try.prog 85 #[.pointer (some ⟨hb, 0, none⟩), x.val] w fun e w' => e = .returned (.bool (S.ready x)) ∧ Turned F hb S w w' := by
  have hR := fun W => right_any x W hx.text
  obtain ⟨k, b, c, o, n, s⟩ := x
  have hb0 : 0 ≤ b := hx.block.1
  have hv : PAct.val ⟨k, b, c, o, n, s⟩ = .agg #[.int .i64 k, .int .u64 b, .int .i64 c, .int .u64 o, .int .u64 n, .string s] := rfl
  rw [hv] at hR ⊢
  clear hv
  have hW0 : Below w.heap.size w (w.alloc (.cells #[.int .i64 k, .int .u64 b, .int .i64 c, .int .u64 o, .int .u64 n, .string s] 31)) := (Below.refl _ _).alloc (Nat.le_refl _) _
  have B1 := Blk.new w 31 #[.int .i64 k, .int .u64 b, .int .i64 c, .int .u64 o, .int .u64 n, .string s]
  by_cases hr : PAct.right ⟨k, b, c, o, n, s⟩ = true
  · rw [hr] at hR
    have hc0 : 0 ≤ c := by
      unfold PAct.right at hr
      simp only [Bool.and_eq_true, decide_eq_true_eq] at hr
      exact hr.1.1
    by_cases h8 : k = 8
    · subst h8
      have hS : S.ready ⟨8, b, c, o, n, s⟩ = !S.locked := by unfold PHeap.ready; rw [if_neg (by rw [hr]; decide), if_pos rfl]
      rw [hS]
      have hL := fun (w1 : World) (hb1 : Below w.heap.size w w1) => locked_any (h.below hb1)
      replace hR := Lib.hid hR
      replace hL := Lib.hid hL
      replace hW0 := Lib.hid hW0
      replace B1 := Lib.hid B1
      clear hr hS hx
      cases hl : S.locked
      all_goals
        rw [hl] at hL
        replace hl := Lib.hid hl
        go_enter Try.func85, Try.ntmps85
        go_wp2_with fail
        refine (hR.out _).mono ?_; rintro e w1 ⟨rfl, hb1⟩
        have hB1 := nx hW0.out (Nat.le_refl _) hb1
        have c0 := (B1.out.below hb1 (by simp)).cell 0
        go_wp2_with fail
        refine (hL.out _ hB1).mono ?_; rintro e w2 ⟨rfl, rfl⟩
        go_wp2_with fail
        go_ret
        exact ⟨rfl, Turned.still h hB1⟩
    · by_cases h10 : k = 10
      · subst h10
        have hS : S.ready ⟨10, b, c, o, n, s⟩ = (decide (c < S.size b) && (S.word b c != 0)) := by unfold PHeap.ready; rw [if_neg (by rw [hr]; decide), if_neg (by show ¬ (10 : Int) = 8; decide), if_pos rfl]
        rw [hS]
        have hZ := fun (w1 : World) (hb1 : Below w.heap.size w w1) => size_any (h.below hb1) b
        have hLd := fun (w1 : World) (hb1 : Below w.heap.size w w1) => load_all (h.below hb1) b c hb0 hf
        have hsz : (((S.find b).map fun x => (x.cells.length : Int)).getD 0) = S.size b := rfl
        rw [hsz] at hZ
        have hload : c < S.size b → S.load b c = (S.word b c, S) ∧ S.code b c = 0 := by
          intro hlt
          have hcd : S.code b c = 0 := by
            unfold PHeap.size at hlt
            cases hfx : S.find b with
            | none => rw [hfx] at hlt; simp at hlt; omega
            | some y => rw [hfx] at hlt; exact code_hit hfx ⟨hc0, by simpa using hlt⟩
          exact ⟨by unfold PHeap.load; rw [if_pos hcd], hcd⟩
        have hz63 : 0 ≤ S.size b ∧ S.size b ≤ 256 := by
          unfold PHeap.size
          cases hfx : S.find b with
          | none => simp
          | some y =>
            have := (h.span y (find_mem hfx).1).2.2.1
            simp
            omega
        clear hS hx hr hsz
        replace hR := Lib.hid hR
        replace hZ := Lib.hid hZ
        replace hW0 := Lib.hid hW0
        replace B1 := Lib.hid B1
        generalize hzz : S.size b = z at *
        replace hzz := Lib.hid hzz
        by_cases hlt : c < z
        · obtain ⟨e1, e2⟩ := hload hlt
          rw [e1, e2] at hLd
          have d1 : decide (z ≤ c) = false := decide_eq_false (by omega)
          have d2 : decide (c < z) = true := decide_eq_true hlt
          rw [d2, Bool.true_and]
          clear hload e1 e2
          generalize S.word b c = v at *
          replace hLd := Lib.hid hLd
          replace h := Lib.hid h
          go_enter Try.func85, Try.ntmps85
          go_wp2_with fail
          refine (hR.out _).mono ?_; rintro e w1 ⟨rfl, hb1⟩
          have hB1 := nx hW0.out (Nat.le_refl _) hb1
          have g1 := B1.out.below hb1 (by simp)
          have c0 := g1.cell 0
          have c1 := g1.cell 1
          have c2 := g1.cell 2
          replace hB1 := Lib.hid hB1
          go_wp2_with fail
          go_quiet ((go_at_call 103; exact Calls.quiet_of_same ((hZ.out _ (by first | exact hB1.out | exact hB1.out.drew | exact below_drewN hB1.out _)).mono fun _ _ hp => ⟨hp.1, hp.2.symm⟩)))
          go_wp2_with fail
          refine (hLd.out _ (by first | exact hB1.out | exact hB1.out.drew | exact below_drewN hB1.out _)).mono ?_; rintro e w2 ⟨rfl, ht⟩
          go_wp2_with fail
          go_ret
          exact ⟨rfl, Turned.after h.out.own (by first | exact hB1.out | exact hB1.out.drew | exact below_drewN hB1.out _) ht⟩
        · have d1 : decide (z ≤ c) = true := decide_eq_true (by omega)
          have d2 : decide (c < z) = false := decide_eq_false (by omega)
          rw [d2, Bool.false_and]
          clear hload hLd
          replace h := Lib.hid h
          go_enter Try.func85, Try.ntmps85
          go_wp2_with fail
          refine (hR.out _).mono ?_; rintro e w1 ⟨rfl, hb1⟩
          have hB1 := nx hW0.out (Nat.le_refl _) hb1
          have g1 := B1.out.below hb1 (by simp)
          have c0 := g1.cell 0
          have c1 := g1.cell 1
          have c2 := g1.cell 2
          replace hB1 := Lib.hid hB1
          go_wp2_with fail
          go_quiet ((go_at_call 103; exact Calls.quiet_of_same ((hZ.out _ (by first | exact hB1.out | exact hB1.out.drew | exact below_drewN hB1.out _)).mono fun _ _ hp => ⟨hp.1, hp.2.symm⟩)))
          go_wp2_with fail
          go_ret
          exact ⟨rfl, Turned.still h.out (by first | exact hB1.out | exact hB1.out.drew | exact below_drewN hB1.out _)⟩
      · have hS : S.ready ⟨k, b, c, o, n, s⟩ = true := by unfold PHeap.ready; rw [if_neg (by rw [hr]; decide), if_neg h8, if_neg h10]
        rw [hS]
        have h8' : (k == 8) = false := by simpa using h8
        have h10' : (k == 10) = false := by simpa using h10
        clear hS hx hr h8 h10
        replace hR := Lib.hid hR
        replace h := Lib.hid h
        replace hW0 := Lib.hid hW0
        replace B1 := Lib.hid B1
        go_enter Try.func85, Try.ntmps85
        go_wp2_with fail
        refine (hR.out _).mono ?_; rintro e w1 ⟨rfl, hb1⟩
        have hB1 := nx hW0.out (Nat.le_refl _) hb1
        have c0 := (B1.out.below hb1 (by simp)).cell 0
        replace hB1 := Lib.hid hB1
        go_wp2_with fail
        go_ret
        exact ⟨rfl, Turned.still h.out hB1.out⟩
  · have hr' : PAct.right ⟨k, b, c, o, n, s⟩ = false := by simpa using hr
    have hS : S.ready ⟨k, b, c, o, n, s⟩ = true := by unfold PHeap.ready; rw [if_pos hr']
    rw [hS]
    rw [hr'] at hR
    clear hS hx hr hr'
    replace hR := Lib.hid hR
    replace h := Lib.hid h
    replace hW0 := Lib.hid hW0
    replace B1 := Lib.hid B1
    go_enter Try.func85, Try.ntmps85
    go_wp2_with fail
    refine (hR.out _).mono ?_; rintro e w1 ⟨rfl, hb1⟩
    have hB1 := nx hW0.out (Nat.le_refl _) hb1
    replace hB1 := Lib.hid hB1
    go_wp2_with fail
    go_ret
    exact ⟨rfl, Turned.still h.out hB1.out⟩
end
end Go.Proofs.Ytpldnbdcpihjcaa
