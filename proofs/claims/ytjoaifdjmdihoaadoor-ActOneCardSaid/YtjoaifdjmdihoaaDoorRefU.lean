/-
  philtreref18.Ready on the document's heap; act.Looks and philtreref18.Looks. No condition. (Ready: printed out of XReady by tools/rready.py.)
-/
import Derived.Test.YtjoaifdjmdihoaaDoorRefT
import Derived.Deep.QuietTactic
import Derived.BigQuiet
namespace Go.Proofs.YtjoaifdjmdihoaaDoor
set_option linter.unusedVariables false
open Go.ChangeShapes Go.WideShapes Go.ChangeAt Go.RowKit
open Go.ChangeMaps (setBlock)

theorem RTurned.after {w w1 w2 : World} {xb : Nat} {S1 : PHeap} {F : Nat → Prop} (hF : In F w) (hb1 : Below w.heap.size w w1) (t : RTurned F xb S1 w1 w2) : RTurned F xb S1 w w2 := by
  have h1 := hb1.size
  have h2 := t.2.size
  refine ⟨t.1.mono (hF.nw (by omega)) (fun k hk => ?_), (Chg.of_below hb1 F).trans t.2 fun _ h => .inl h⟩
  rcases hk with hk | hk
  · exact .inl hk
  · exact .inr ⟨by omega, hk.2⟩
def PAct.looks (x : PAct) : Bool := x.right && (x.kind == 1 || x.kind == 6 || x.kind == 10)
section
variable {w : World} {hb : Nat} {S : PHeap} {F : Nat → Prop} (h : RefIn w hb S F)
include h
set_option maxRecDepth 100000 in
theorem rready_any (x : PAct) (hx : x.Ok) (hl : S.last ≤ 1000000) (hf : S.faults ≤ 1000000000) :
    Calls Tryd.prog 14 #[.pointer (some ⟨hb, 0, none⟩), x.val] w fun e w' => e = .returned (.bool (S.ready x)) ∧ RTurned F hb S w w' := by
  have hR := fun W => rright_any x W hx.text
  obtain ⟨k, b, c, o, n, s⟩ := x
  have hb0 : 0 ≤ b := hx.block.1
  have hv : PAct.val ⟨k, b, c, o, n, s⟩ = .agg #[.int .i64 k, .int .u64 b, .int .i64 c, .int .u64 o, .int .u64 n, .string s] := rfl
  rw [hv] at hR ⊢
  clear hv
  have hW0 : Below w.heap.size w (w.alloc (.cells #[.int .i64 k, .int .u64 b, .int .i64 c, .int .u64 o, .int .u64 n, .string s] 34)) := (Below.refl _ _).alloc (Nat.le_refl _) _
  have B1 := Blk.new w 34 #[.int .i64 k, .int .u64 b, .int .i64 c, .int .u64 o, .int .u64 n, .string s]
  by_cases hr : PAct.right ⟨k, b, c, o, n, s⟩ = true
  · rw [hr] at hR
    have hc0 : 0 ≤ c := by
      unfold PAct.right at hr
      simp only [Bool.and_eq_true, decide_eq_true_eq] at hr
      exact hr.1.1
    by_cases h8 : k = 8
    · subst h8
      have hS : S.ready ⟨8, b, c, o, n, s⟩ = !S.locked := by unfold PHeap.ready; rw [if_neg (by rw [hr]; decide), if_pos rfl]
      rw [hS]
      have hL : ∀ (w1 : World) (hb1 : Below w.heap.size w w1), w1.cell? ⟨hb, 1, none⟩ = some (.bool S.locked) := fun w1 hb1 => by
        obtain ⟨A, cap, R, h1, _⟩ := (h.below hb1).ex
        exact h1.cell 1
      replace hR := Lib.hid hR
      replace hW0 := Lib.hid hW0
      replace B1 := Lib.hid B1
      clear hr hS hx
      cases hlk : S.locked
      all_goals
        rw [hlk] at hL
        replace hlk := Lib.hid hlk
        replace hL := Lib.hid hL
        go_enter Tryd.func14, Tryd.ntmps14
        go_wp2_with fail
        refine (hR.out _).mono ?_; rintro e w1 ⟨rfl, hb1⟩
        have hB1 := nx hW0.out (Nat.le_refl _) hb1
        have c0 := (B1.out.below hb1 (by simp)).cell 0
        have cL := hL.out _ hB1
        go_wp2_with fail
        go_ret
        exact ⟨rfl, RTurned.still h hB1⟩
    · by_cases h10 : k = 10
      · subst h10
        have hS : S.ready ⟨10, b, c, o, n, s⟩ = (decide (c < S.size b) && (S.word b c != 0)) := by unfold PHeap.ready; rw [if_neg (by rw [hr]; decide), if_neg (by show ¬ (10 : Int) = 8; decide), if_pos rfl]
        rw [hS]
        have hZ := fun (w1 : World) (hb1 : Below w.heap.size w w1) => rsize_any (h.below hb1) b hb0 hl
        have hLd := fun (w1 : World) (hb1 : Below w.heap.size w w1) => rloadEx_all (h.below hb1) b c hb0 hl hf
        have hload : c < S.size b → S.load b c = (S.word b c, S) ∧ S.code b c = 0 := by
          intro hlt
          have hcd : S.code b c = 0 := by
            unfold PHeap.size at hlt
            cases hfx : S.find b with
            | none => rw [hfx] at hlt; simp at hlt; omega
            | some y => rw [hfx] at hlt; exact code_hit hfx ⟨hc0, by simpa using hlt⟩
          exact ⟨by unfold PHeap.load; rw [if_pos hcd], hcd⟩
        clear hS hx hr
        replace hR := Lib.hid hR
        replace hZ := Lib.hid hZ
        replace hW0 := Lib.hid hW0
        replace B1 := Lib.hid B1
        generalize hzz : S.size b = z at *
        replace hzz := Lib.hid hzz
        by_cases hlt : c < z
        · obtain ⟨e1, e2⟩ := hload hlt
          rw [e1, e2] at hLd
          have d1 : decide (z ≤ c) = false := decide_eq_false (by omega)
          have d2 : decide (c < z) = true := decide_eq_true hlt
          rw [d2, Bool.true_and]
          clear hload e1 e2
          generalize S.word b c = v at *
          replace hLd := Lib.hid hLd
          replace h := Lib.hid h
          go_enter Tryd.func14, Tryd.ntmps14
          go_wp2_with fail
          refine (hR.out _).mono ?_; rintro e w1 ⟨rfl, hb1⟩
          have hB1 := nx hW0.out (Nat.le_refl _) hb1
          have g1 := B1.out.below hb1 (by simp)
          have c0 := g1.cell 0
          have c1 := g1.cell 1
          have c2 := g1.cell 2
          replace hB1 := Lib.hid hB1
          go_wp2_with fail
          go_quiet ((go_at_call 29; exact Calls.quiet_of_same ((hZ.out _ (by first | exact hB1.out | exact hB1.out.drew | exact below_drewN hB1.out _)).mono fun _ _ hp => ⟨hp.1, hp.2.symm⟩)))
          go_wp2_with fail
          refine (hLd.out _ (by first | exact hB1.out | exact hB1.out.drew | exact below_drewN hB1.out _)).mono ?_; rintro e w2 ⟨rfl, ht⟩
          go_wp2_with fail
          go_ret
          exact ⟨rfl, RTurned.after h.out.own (by first | exact hB1.out | exact hB1.out.drew | exact below_drewN hB1.out _) ht⟩
        · have d1 : decide (z ≤ c) = true := decide_eq_true (by omega)
          have d2 : decide (c < z) = false := decide_eq_false (by omega)
          rw [d2, Bool.false_and]
          clear hload hLd
          replace h := Lib.hid h
          go_enter Tryd.func14, Tryd.ntmps14
          go_wp2_with fail
          refine (hR.out _).mono ?_; rintro e w1 ⟨rfl, hb1⟩
          have hB1 := nx hW0.out (Nat.le_refl _) hb1
          have g1 := B1.out.below hb1 (by simp)
          have c0 := g1.cell 0
          have c1 := g1.cell 1
          have c2 := g1.cell 2
          replace hB1 := Lib.hid hB1
          go_wp2_with fail
          go_quiet ((go_at_call 29; exact Calls.quiet_of_same ((hZ.out _ (by first | exact hB1.out | exact hB1.out.drew | exact below_drewN hB1.out _)).mono fun _ _ hp => ⟨hp.1, hp.2.symm⟩)))
          go_wp2_with fail
          go_ret
          exact ⟨rfl, RTurned.still h.out (by first | exact hB1.out | exact hB1.out.drew | exact below_drewN hB1.out _)⟩
      · have hS : S.ready ⟨k, b, c, o, n, s⟩ = true := by unfold PHeap.ready; rw [if_neg (by rw [hr]; decide), if_neg h8, if_neg h10]
        rw [hS]
        have h8' : (k == 8) = false := by simpa using h8
        have h10' : (k == 10) = false := by simpa using h10
        have h8b : (k != 8) = true := by simpa using h8
        have h10b : (k != 10) = true := by simpa using h10
        clear hS hx hr h8 h10
        replace hR := Lib.hid hR
        replace h := Lib.hid h
        replace hW0 := Lib.hid hW0
        replace B1 := Lib.hid B1
        go_enter Tryd.func14, Tryd.ntmps14
        go_wp2_with fail
        refine (hR.out _).mono ?_; rintro e w1 ⟨rfl, hb1⟩
        have hB1 := nx hW0.out (Nat.le_refl _) hb1
        have c0 := (B1.out.below hb1 (by simp)).cell 0
        replace hB1 := Lib.hid hB1
        go_wp2_with fail
        go_ret
        exact ⟨rfl, RTurned.still h.out hB1.out⟩
  · have hr' : PAct.right ⟨k, b, c, o, n, s⟩ = false := by simpa using hr
    have hS : S.ready ⟨k, b, c, o, n, s⟩ = true := by unfold PHeap.ready; rw [if_pos hr']
    rw [hS]
    rw [hr'] at hR
    clear hS hx hr hr'
    replace hR := Lib.hid hR
    replace h := Lib.hid h
    replace hW0 := Lib.hid hW0
    replace B1 := Lib.hid B1
    go_enter Tryd.func14, Tryd.ntmps14
    go_wp2_with fail
    refine (hR.out _).mono ?_; rintro e w1 ⟨rfl, hb1⟩
    have hB1 := nx hW0.out (Nat.le_refl _) hb1
    replace hB1 := Lib.hid hB1
    go_wp2_with fail
    go_ret
    exact ⟨rfl, RTurned.still h.out hB1.out⟩
end
set_option maxRecDepth 100000 in
set_option maxHeartbeats 1000000 in
theorem looks_any (x : PAct) (hx : x.Ok) (w : World) : Calls Tryd.prog 11 #[x.val] w fun e w' => e = .returned (.bool x.looks) ∧ Below w.heap.size w w' := by
  have hR := fun W => right_any x W hx.text
  unfold PAct.looks
  obtain ⟨k, b, c, o, n, s⟩ := x
  have hv : PAct.val ⟨k, b, c, o, n, s⟩ = .agg #[.int .i64 k, .int .u64 b, .int .i64 c, .int .u64 o, .int .u64 n, .string s] := rfl
  rw [hv] at hR ⊢
  clear hv hx
  generalize PAct.right ⟨k, b, c, o, n, s⟩ = q at *
  have hW0 : Below w.heap.size w (w.alloc (.cells #[.int .i64 k, .int .u64 b, .int .i64 c, .int .u64 o, .int .u64 n, .string s] 34)) := (Below.refl _ _).alloc (Nat.le_refl _) _
  have B1 := Blk.new w 34 #[.int .i64 k, .int .u64 b, .int .i64 c, .int .u64 o, .int .u64 n, .string s]
  replace hR := Lib.hid hR
  replace hW0 := Lib.hid hW0
  replace B1 := Lib.hid B1
  cases q with
  | false =>
    go_enter Tryd.func11, Tryd.ntmps11
    go_wp2_with fail
    refine (hR.out _).mono ?_; rintro e w1 ⟨rfl, hb1⟩
    have hB1 := nx hW0.out (Nat.le_refl _) hb1
    replace hB1 := Lib.hid hB1
    clear hb1
    go_wp2_with fail
    go_ret
    exact ⟨rfl, hB1.out⟩
  | true =>
    have hcs : (k = 1) ∨ (k = 6) ∨ (k = 10) ∨ (¬ k = 1 ∧ ¬ k = 6 ∧ ¬ k = 10) := by omega
    rcases hcs with rfl | rfl | rfl | ⟨e1, e2, e3⟩
    case' inr.inr.inr =>
      have d1 : (k == 1) = false := by simpa using e1
      have d2 : (k == 6) = false := by simpa using e2
      have d3 : (k == 10) = false := by simpa using e3
      rw [d1, d2, d3]
      clear e1 e2 e3
    all_goals
      go_enter Tryd.func11, Tryd.ntmps11
      go_wp2_with fail
      refine (hR.out _).mono ?_; rintro e w1 ⟨rfl, hb1⟩
      have hB1 := nx hW0.out (Nat.le_refl _) hb1
      have c0 := (B1.out.below hb1 (by simp)).cell 0
      replace hB1 := Lib.hid hB1
      clear hb1
      go_wp2_with fail
      go_ret
      exact ⟨rfl, hB1.out⟩
set_option maxRecDepth 100000 in
set_option maxHeartbeats 1000000 in
theorem rlooks_any (x : PAct) (hx : x.Ok) (w : World) : Calls Tryd.prog 12 #[x.val] w fun e w' => e = .returned (.bool x.looks) ∧ Below w.heap.size w w' := by
  have hR := fun W => rright_any x W hx.text
  unfold PAct.looks
  obtain ⟨k, b, c, o, n, s⟩ := x
  have hv : PAct.val ⟨k, b, c, o, n, s⟩ = .agg #[.int .i64 k, .int .u64 b, .int .i64 c, .int .u64 o, .int .u64 n, .string s] := rfl
  rw [hv] at hR ⊢
  clear hv hx
  generalize PAct.right ⟨k, b, c, o, n, s⟩ = q at *
  have hW0 : Below w.heap.size w (w.alloc (.cells #[.int .i64 k, .int .u64 b, .int .i64 c, .int .u64 o, .int .u64 n, .string s] 34)) := (Below.refl _ _).alloc (Nat.le_refl _) _
  have B1 := Blk.new w 34 #[.int .i64 k, .int .u64 b, .int .i64 c, .int .u64 o, .int .u64 n, .string s]
  replace hR := Lib.hid hR
  replace hW0 := Lib.hid hW0
  replace B1 := Lib.hid B1
  cases q with
  | false =>
    go_enter Tryd.func12, Tryd.ntmps12
    go_wp2_with fail
    refine (hR.out _).mono ?_; rintro e w1 ⟨rfl, hb1⟩
    have hB1 := nx hW0.out (Nat.le_refl _) hb1
    replace hB1 := Lib.hid hB1
    clear hb1
    go_wp2_with fail
    go_ret
    exact ⟨rfl, hB1.out⟩
  | true =>
    have hcs : (k = 1) ∨ (k = 6) ∨ (k = 10) ∨ (¬ k = 1 ∧ ¬ k = 6 ∧ ¬ k = 10) := by omega
    rcases hcs with rfl | rfl | rfl | ⟨e1, e2, e3⟩
    case' inr.inr.inr =>
      have d1 : (k == 1) = false := by simpa using e1
      have d2 : (k == 6) = false := by simpa using e2
      have d3 : (k == 10) = false := by simpa using e3
      rw [d1, d2, d3]
      clear e1 e2 e3
    all_goals
      go_enter Tryd.func12, Tryd.ntmps12
      go_wp2_with fail
      refine (hR.out _).mono ?_; rintro e w1 ⟨rfl, hb1⟩
      have hB1 := nx hW0.out (Nat.le_refl _) hb1
      have c0 := (B1.out.below hb1 (by simp)).cell 0
      replace hB1 := Lib.hid hB1
      clear hb1
      go_wp2_with fail
      go_ret
      exact ⟨rfl, hB1.out⟩
end Go.Proofs.YtjoaifdjmdihoaaDoor
