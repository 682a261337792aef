/-
  The document's guard and step: parts of an operation, read at a place. No condition.
-/
import Derived.Test.YtpkkjoiglemlgaaGreatDoorOpW
namespace Go.Proofs.YtpkkjoiglemlgaaGreatDoor
set_option linter.unusedVariables false
open Go.RowKit Go.Extern.Stop Go.Stop Go.Extern Go.ChangeShapes

/-- What the document's guard answers. -/
def GAns (r : Except (Int × Int) (OGuard × Int)) (v : Value) : Prop := match r with
  | .ok x => ∃ pl, v = .tuple #[.agg #[.int .i64 x.1.kind, .string x.1.key, .string x.1.value], .int .i64 x.2, .int .i64 0, .int .i64 pl]
  | .error e => e.1 ≠ 0 ∧ ∃ k key value nx, v = .tuple #[.agg #[.int .i64 k, .string key, .string value], .int .i64 nx, .int .i64 e.1, .int .i64 e.2]
/-- What the document's step answers. -/
def SAns (r : Except (Int × Int) (OStep × Int)) (v : Value) : Prop := match r with
  | .ok x => ∃ pl, v = .tuple #[.agg #[.int .i64 x.1.kind, .string x.1.key, .string x.1.value, .string x.1.old, .int .i64 x.1.n], .int .i64 x.2, .int .i64 0, .int .i64 pl]
  | .error e => e.1 ≠ 0 ∧ ∃ k key value old n nx, v = .tuple #[.agg #[.int .i64 k, .string key, .string value, .string old, .int .i64 n], .int .i64 nx, .int .i64 e.1, .int .i64 e.2]
theorem tk_lt (s : ByteArray) (p : Int) : (tk s p).1 < 18446744073709551616 := by
  by_cases h : (tk s p).2.2 = 0
  · obtain ⟨_, _, _, _, h4⟩ := seg_tk h
    exact h4
  · unfold tk at h ⊢
    split
    · decide
    · split
      · rename_i h1 h2
        rw [if_neg h1, if_pos h2] at h
        exact absurd rfl h
      · exact show (0 : Nat) < 18446744073709551616 by decide
set_option maxHeartbeats 1000000 in
theorem refGuard_any (s : ByteArray) (p : Int) (hs : s.size ≤ 1000000) (w : World) :
    Calls Tryz.prog 76 #[.string s, .int .i64 p] w fun e w' => ∃ v, e = .returned v ∧ GAns (pGuard s p) v ∧ Below w.heap.size w w' := by
  have T1 := Lib.hid (fun w => refTake_any w s p hs)
  have T2 := Lib.hid (fun w => refTakeText_any w s (tk s p).2.1 16 hs (by decide))
  have T3 := Lib.hid (fun w => refTakeText_any w s (tkt s (tk s p).2.1 16).2.1 32 hs (by decide))
  have hlt := tk_lt s p
  unfold pGuard
  generalize (tkt s (tkt s (tk s p).2.1 16).2.1 32).1 = x3 at *
  generalize (tkt s (tkt s (tk s p).2.1 16).2.1 32).2.1 = b3 at *
  generalize (tkt s (tkt s (tk s p).2.1 16).2.1 32).2.2 = c3 at *
  generalize (tkt s (tk s p).2.1 16).1 = x2 at *
  generalize (tkt s (tk s p).2.1 16).2.1 = b2 at *
  generalize (tkt s (tk s p).2.1 16).2.2 = c2 at *
  generalize (tk s p).1 = k at *
  generalize (tk s p).2.1 = b1 at *
  generalize (tk s p).2.2 = c1 at *
  by_cases hc1 : c1 ≠ 0
  · rw [if_pos hc1]
    have nc1 : (c1 == 0) = false := beq_eq_false_iff_ne.2 hc1
    have mc1 : (c1 != 0) = true := by rw [bne, nc1]; rfl
    have hc1' := Lib.hid hc1
    clear hc1
    go_enter Tryz.func76, Tryz.ntmps76
    go_wp2_with fail
    refine (T1.out _).mono ?_; rintro e w1 ⟨rfl, rfl⟩
    go_wp2_with fail
    exact bodyPost_ret (v := .tuple #[.agg #[.int .i64 0, .string ⟨#[]⟩, .string ⟨#[]⟩], .int .i64 0, .int .i64 c1, .int .i64 p]) (by simp [results, Tryz.results76, go_sem]) rfl ⟨_, rfl, ⟨hc1'.out, _, _, _, _, rfl⟩, by (repeat first | exact Below.refl _ _ | assumption | refine Below.drew ?_ | refine below_drewN ?_ _ | refine Below.more_ ?_ _ | refine Below.setCell ?_ (by first | exact Nat.le_refl _ | (simp; done) | (simp; omega)) _)⟩
  · rw [if_neg hc1]
    obtain rfl : c1 = 0 := Classical.byContradiction hc1
    clear hc1
    by_cases hk : k < 1 ∨ 3 < k
    · rw [if_pos hk]
      rcases hk with hk | hk
      all_goals
        go_enter Tryz.func76, Tryz.ntmps76
        go_wp2_with fail
        refine (T1.out _).mono ?_; rintro e w1 ⟨rfl, rfl⟩
        go_wp2_with fail
        exact bodyPost_ret (v := .tuple #[.agg #[.int .i64 0, .string ⟨#[]⟩, .string ⟨#[]⟩], .int .i64 0, .int .i64 5, .int .i64 p]) (by simp [results, Tryz.results76, go_sem]) rfl ⟨_, rfl, ⟨show (5 : Int) ≠ 0 by decide, _, _, _, _, rfl⟩, by (repeat first | exact Below.refl _ _ | assumption | refine Below.drew ?_ | refine below_drewN ?_ _ | refine Below.more_ ?_ _ | refine Below.setCell ?_ (by first | exact Nat.le_refl _ | (simp; done) | (simp; omega)) _)⟩
    · rw [if_neg hk]
      have hk1 : 1 ≤ k := by omega
      have hk3 : k ≤ 3 := by omega
      clear hk
      by_cases hc2 : c2 ≠ 0
      · rw [if_pos hc2]
        have nc2 : (c2 == 0) = false := beq_eq_false_iff_ne.2 hc2
        have mc2 : (c2 != 0) = true := by rw [bne, nc2]; rfl
        have hc2' := Lib.hid hc2
        clear hc2
        go_enter Tryz.func76, Tryz.ntmps76
        go_wp2_with fail
        refine (T1.out _).mono ?_; rintro e w1 ⟨rfl, rfl⟩
        go_wp2_with fail
        refine (T2.out _).mono ?_; rintro e w1 ⟨rfl, rfl⟩
        go_wp2_with fail
        exact bodyPost_ret (v := .tuple #[.agg #[.int .i64 k, .string x2, .string ⟨#[]⟩], .int .i64 b2, .int .i64 c2, .int .i64 b1]) (by simp [results, Tryz.results76, go_sem]) rfl ⟨_, rfl, ⟨hc2'.out, _, _, _, _, rfl⟩, by (repeat first | exact Below.refl _ _ | assumption | refine Below.drew ?_ | refine below_drewN ?_ _ | refine Below.more_ ?_ _ | refine Below.setCell ?_ (by first | exact Nat.le_refl _ | (simp; done) | (simp; omega)) _)⟩
      · rw [if_neg hc2]
        obtain rfl : c2 = 0 := Classical.byContradiction hc2
        clear hc2
        by_cases hk2 : k < 3
        · rw [if_pos hk2]
          go_enter Tryz.func76, Tryz.ntmps76
          go_wp2_with fail
          refine (T1.out _).mono ?_; rintro e w1 ⟨rfl, rfl⟩
          go_wp2_with fail
          refine (T2.out _).mono ?_; rintro e w1 ⟨rfl, rfl⟩
          go_wp2_with fail
          exact bodyPost_ret (v := .tuple #[.agg #[.int .i64 k, .string x2, .string ⟨#[]⟩], .int .i64 b2, .int .i64 0, .int .i64 b1]) (by simp [results, Tryz.results76, go_sem]) rfl ⟨_, rfl, ⟨b1, rfl⟩, by (repeat first | exact Below.refl _ _ | assumption | refine Below.drew ?_ | refine below_drewN ?_ _ | refine Below.more_ ?_ _ | refine Below.setCell ?_ (by first | exact Nat.le_refl _ | (simp; done) | (simp; omega)) _)⟩
        · rw [if_neg hk2]
          obtain rfl : k = 3 := by omega
          clear hk1 hk3 hk2 hlt
          by_cases hc3 : c3 ≠ 0
          · rw [if_pos hc3]
            have hc3' := Lib.hid hc3
            clear hc3
            go_enter Tryz.func76, Tryz.ntmps76
            go_wp2_with fail
            refine (T1.out _).mono ?_; rintro e w1 ⟨rfl, rfl⟩
            go_wp2_with fail
            refine (T2.out _).mono ?_; rintro e w1 ⟨rfl, rfl⟩
            go_wp2_with fail
            refine (T3.out _).mono ?_; rintro e w1 ⟨rfl, rfl⟩
            go_wp2_with fail
            exact bodyPost_ret (v := .tuple #[.agg #[.int .i64 3, .string x2, .string x3], .int .i64 b3, .int .i64 c3, .int .i64 b2]) (by simp [results, Tryz.results76, go_sem]) rfl ⟨_, rfl, ⟨hc3'.out, _, _, _, _, rfl⟩, by (repeat first | exact Below.refl _ _ | assumption | refine Below.drew ?_ | refine below_drewN ?_ _ | refine Below.more_ ?_ _ | refine Below.setCell ?_ (by first | exact Nat.le_refl _ | (simp; done) | (simp; omega)) _)⟩
          · rw [if_neg hc3]
            obtain rfl : c3 = 0 := Classical.byContradiction hc3
            clear hc3
            go_enter Tryz.func76, Tryz.ntmps76
            go_wp2_with fail
            refine (T1.out _).mono ?_; rintro e w1 ⟨rfl, rfl⟩
            go_wp2_with fail
            refine (T2.out _).mono ?_; rintro e w1 ⟨rfl, rfl⟩
            go_wp2_with fail
            refine (T3.out _).mono ?_; rintro e w1 ⟨rfl, rfl⟩
            go_wp2_with fail
            exact bodyPost_ret (v := .tuple #[.agg #[.int .i64 3, .string x2, .string x3], .int .i64 b3, .int .i64 0, .int .i64 b2]) (by simp [results, Tryz.results76, go_sem]) rfl ⟨_, rfl, ⟨b2, rfl⟩, by (repeat first | exact Below.refl _ _ | assumption | refine Below.drew ?_ | refine below_drewN ?_ _ | refine Below.more_ ?_ _ | refine Below.setCell ?_ (by first | exact Nat.le_refl _ | (simp; done) | (simp; omega)) _)⟩
set_option maxRecDepth 100000 in
set_option maxHeartbeats 4000000 in
theorem refStep_any (s : ByteArray) (p : Int) (hs : s.size ≤ 1000000) (w : World) :
    Calls Tryz.prog 77 #[.string s, .int .i64 p] w fun e w' => ∃ v, e = .returned v ∧ SAns (pStep s p) v ∧ Below w.heap.size w w' := by
  have T1 := Lib.hid (fun w => refTake_any w s p hs)
  have T2 := Lib.hid (fun w => refTakeText_any w s (tk s p).2.1 16 hs (by decide))
  have T3 := Lib.hid (fun w => refTakeText_any w s (tkt s (tk s p).2.1 16).2.1 32 hs (by decide))
  have T4 := Lib.hid (fun w => refTakeText_any w s (tkt s (tkt s (tk s p).2.1 16).2.1 32).2.1 32 hs (by decide))
  have T5 := Lib.hid (fun w => refTakeInt_any w s (tkt s (tk s p).2.1 16).2.1 hs)
  have hlt := tk_lt s p
  unfold pStep pStepTail
  generalize (tki s (tkt s (tk s p).2.1 16).2.1).1 = x5 at *
  generalize (tki s (tkt s (tk s p).2.1 16).2.1).2.1 = b5 at *
  generalize (tki s (tkt s (tk s p).2.1 16).2.1).2.2 = c5 at *
  generalize (tkt s (tkt s (tkt s (tk s p).2.1 16).2.1 32).2.1 32).1 = x4 at *
  generalize (tkt s (tkt s (tkt s (tk s p).2.1 16).2.1 32).2.1 32).2.1 = b4 at *
  generalize (tkt s (tkt s (tkt s (tk s p).2.1 16).2.1 32).2.1 32).2.2 = c4 at *
  generalize (tkt s (tkt s (tk s p).2.1 16).2.1 32).1 = x3 at *
  generalize (tkt s (tkt s (tk s p).2.1 16).2.1 32).2.1 = b3 at *
  generalize (tkt s (tkt s (tk s p).2.1 16).2.1 32).2.2 = c3 at *
  generalize (tkt s (tk s p).2.1 16).1 = x2 at *
  generalize (tkt s (tk s p).2.1 16).2.1 = b2 at *
  generalize (tkt s (tk s p).2.1 16).2.2 = c2 at *
  generalize (tk s p).1 = k at *
  generalize (tk s p).2.1 = b1 at *
  generalize (tk s p).2.2 = c1 at *
  by_cases hc1 : c1 ≠ 0
  · rw [if_pos hc1]
    have nc1 : (c1 == 0) = false := beq_eq_false_iff_ne.2 hc1
    have mc1 : (c1 != 0) = true := by rw [bne, nc1]; rfl
    have hc1' := Lib.hid hc1
    clear hc1
    go_enter Tryz.func77, Tryz.ntmps77
    go_wp2_with fail
    refine (T1.out _).mono ?_; rintro e w1 ⟨rfl, rfl⟩
    go_wp2_with fail
    exact bodyPost_ret (v := .tuple #[.agg #[.int .i64 0, .string ⟨#[]⟩, .string ⟨#[]⟩, .string ⟨#[]⟩, .int .i64 0], .int .i64 0, .int .i64 c1, .int .i64 p]) (by simp [results, Tryz.results77, go_sem]) rfl ⟨_, rfl, ⟨hc1'.out, _, _, _, _, _, _, rfl⟩, by (repeat first | exact Below.refl _ _ | assumption | refine Below.drew ?_ | refine below_drewN ?_ _ | refine Below.more_ ?_ _ | refine Below.setCell ?_ (by first | exact Nat.le_refl _ | (simp; done) | (simp; omega)) _)⟩
  · rw [if_neg hc1]
    obtain rfl : c1 = 0 := Classical.byContradiction hc1
    clear hc1
    by_cases hk : k < 1 ∨ 4 < k
    · rw [if_pos hk]
      rcases hk with hk | hk
      all_goals
        go_enter Tryz.func77, Tryz.ntmps77
        go_wp2_with fail
        refine (T1.out _).mono ?_; rintro e w1 ⟨rfl, rfl⟩
        go_wp2_with fail
        exact bodyPost_ret (v := .tuple #[.agg #[.int .i64 0, .string ⟨#[]⟩, .string ⟨#[]⟩, .string ⟨#[]⟩, .int .i64 0], .int .i64 0, .int .i64 5, .int .i64 p]) (by simp [results, Tryz.results77, go_sem]) rfl ⟨_, rfl, ⟨show (5 : Int) ≠ 0 by decide, _, _, _, _, _, _, rfl⟩, by (repeat first | exact Below.refl _ _ | assumption | refine Below.drew ?_ | refine below_drewN ?_ _ | refine Below.more_ ?_ _ | refine Below.setCell ?_ (by first | exact Nat.le_refl _ | (simp; done) | (simp; omega)) _)⟩
    · rw [if_neg hk]
      have hk1 : k = 1 ∨ k = 2 ∨ k = 3 ∨ k = 4 := by omega
      clear hk hlt
      by_cases hc2 : c2 ≠ 0
      · rw [if_pos hc2]
        have nc2 : (c2 == 0) = false := beq_eq_false_iff_ne.2 hc2
        have mc2 : (c2 != 0) = true := by rw [bne, nc2]; rfl
        have hc2' := Lib.hid hc2
        clear hc2
        rcases hk1 with rfl | rfl | rfl | rfl
        · go_enter Tryz.func77, Tryz.ntmps77
          go_wp2_with fail
          refine (T1.out _).mono ?_; rintro e w1 ⟨rfl, rfl⟩
          go_wp2_with fail
          refine (T2.out _).mono ?_; rintro e w1 ⟨rfl, rfl⟩
          go_wp2_with fail
          exact bodyPost_ret (v := .tuple #[.agg #[.int .i64 1, .string x2, .string ⟨#[]⟩, .string ⟨#[]⟩, .int .i64 0], .int .i64 b2, .int .i64 c2, .int .i64 b1]) (by simp [results, Tryz.results77, go_sem]) rfl ⟨_, rfl, ⟨hc2'.out, _, _, _, _, _, _, rfl⟩, by (repeat first | exact Below.refl _ _ | assumption | refine Below.drew ?_ | refine below_drewN ?_ _ | refine Below.more_ ?_ _ | refine Below.setCell ?_ (by first | exact Nat.le_refl _ | (simp; done) | (simp; omega)) _)⟩
        · go_enter Tryz.func77, Tryz.ntmps77
          go_wp2_with fail
          refine (T1.out _).mono ?_; rintro e w1 ⟨rfl, rfl⟩
          go_wp2_with fail
          refine (T2.out _).mono ?_; rintro e w1 ⟨rfl, rfl⟩
          go_wp2_with fail
          exact bodyPost_ret (v := .tuple #[.agg #[.int .i64 2, .string x2, .string ⟨#[]⟩, .string ⟨#[]⟩, .int .i64 0], .int .i64 b2, .int .i64 c2, .int .i64 b1]) (by simp [results, Tryz.results77, go_sem]) rfl ⟨_, rfl, ⟨hc2'.out, _, _, _, _, _, _, rfl⟩, by (repeat first | exact Below.refl _ _ | assumption | refine Below.drew ?_ | refine below_drewN ?_ _ | refine Below.more_ ?_ _ | refine Below.setCell ?_ (by first | exact Nat.le_refl _ | (simp; done) | (simp; omega)) _)⟩
        · go_enter Tryz.func77, Tryz.ntmps77
          go_wp2_with fail
          refine (T1.out _).mono ?_; rintro e w1 ⟨rfl, rfl⟩
          go_wp2_with fail
          refine (T2.out _).mono ?_; rintro e w1 ⟨rfl, rfl⟩
          go_wp2_with fail
          exact bodyPost_ret (v := .tuple #[.agg #[.int .i64 3, .string x2, .string ⟨#[]⟩, .string ⟨#[]⟩, .int .i64 0], .int .i64 b2, .int .i64 c2, .int .i64 b1]) (by simp [results, Tryz.results77, go_sem]) rfl ⟨_, rfl, ⟨hc2'.out, _, _, _, _, _, _, rfl⟩, by (repeat first | exact Below.refl _ _ | assumption | refine Below.drew ?_ | refine below_drewN ?_ _ | refine Below.more_ ?_ _ | refine Below.setCell ?_ (by first | exact Nat.le_refl _ | (simp; done) | (simp; omega)) _)⟩
        · go_enter Tryz.func77, Tryz.ntmps77
          go_wp2_with fail
          refine (T1.out _).mono ?_; rintro e w1 ⟨rfl, rfl⟩
          go_wp2_with fail
          refine (T2.out _).mono ?_; rintro e w1 ⟨rfl, rfl⟩
          go_wp2_with fail
          exact bodyPost_ret (v := .tuple #[.agg #[.int .i64 4, .string x2, .string ⟨#[]⟩, .string ⟨#[]⟩, .int .i64 0], .int .i64 b2, .int .i64 c2, .int .i64 b1]) (by simp [results, Tryz.results77, go_sem]) rfl ⟨_, rfl, ⟨hc2'.out, _, _, _, _, _, _, rfl⟩, by (repeat first | exact Below.refl _ _ | assumption | refine Below.drew ?_ | refine below_drewN ?_ _ | refine Below.more_ ?_ _ | refine Below.setCell ?_ (by first | exact Nat.le_refl _ | (simp; done) | (simp; omega)) _)⟩
      · rw [if_neg hc2]
        obtain rfl : c2 = 0 := Classical.byContradiction hc2
        clear hc2
        rcases hk1 with rfl | rfl | rfl | rfl
        · rw [if_neg (by decide), if_neg (by decide)]
          by_cases hc3 : c3 ≠ 0
          · rw [if_pos hc3]
            have nc3 : (c3 == 0) = false := beq_eq_false_iff_ne.2 hc3
            have mc3 : (c3 != 0) = true := by rw [bne, nc3]; rfl
            have hc3' := Lib.hid hc3
            clear hc3
            go_enter Tryz.func77, Tryz.ntmps77
            go_wp2_with fail
            refine (T1.out _).mono ?_; rintro e w1 ⟨rfl, rfl⟩
            go_wp2_with fail
            refine (T2.out _).mono ?_; rintro e w1 ⟨rfl, rfl⟩
            go_wp2_with fail
            refine (T3.out _).mono ?_; rintro e w1 ⟨rfl, rfl⟩
            go_wp2_with fail
            exact bodyPost_ret (v := .tuple #[.agg #[.int .i64 1, .string x2, .string x3, .string ⟨#[]⟩, .int .i64 0], .int .i64 b3, .int .i64 c3, .int .i64 b2]) (by simp [results, Tryz.results77, go_sem]) rfl ⟨_, rfl, ⟨hc3'.out, _, _, _, _, _, _, rfl⟩, by (repeat first | exact Below.refl _ _ | assumption | refine Below.drew ?_ | refine below_drewN ?_ _ | refine Below.more_ ?_ _ | refine Below.setCell ?_ (by first | exact Nat.le_refl _ | (simp; done) | (simp; omega)) _)⟩
          · rw [if_neg hc3, if_pos rfl]
            obtain rfl : c3 = 0 := Classical.byContradiction hc3
            clear hc3
            go_enter Tryz.func77, Tryz.ntmps77
            go_wp2_with fail
            refine (T1.out _).mono ?_; rintro e w1 ⟨rfl, rfl⟩
            go_wp2_with fail
            refine (T2.out _).mono ?_; rintro e w1 ⟨rfl, rfl⟩
            go_wp2_with fail
            refine (T3.out _).mono ?_; rintro e w1 ⟨rfl, rfl⟩
            go_wp2_with fail
            exact bodyPost_ret (v := .tuple #[.agg #[.int .i64 1, .string x2, .string x3, .string ⟨#[]⟩, .int .i64 0], .int .i64 b3, .int .i64 0, .int .i64 b2]) (by simp [results, Tryz.results77, go_sem]) rfl ⟨_, rfl, ⟨b2, rfl⟩, by (repeat first | exact Below.refl _ _ | assumption | refine Below.drew ?_ | refine below_drewN ?_ _ | refine Below.more_ ?_ _ | refine Below.setCell ?_ (by first | exact Nat.le_refl _ | (simp; done) | (simp; omega)) _)⟩
        · rw [if_pos rfl]
          go_enter Tryz.func77, Tryz.ntmps77
          go_wp2_with fail
          refine (T1.out _).mono ?_; rintro e w1 ⟨rfl, rfl⟩
          go_wp2_with fail
          refine (T2.out _).mono ?_; rintro e w1 ⟨rfl, rfl⟩
          go_wp2_with fail
          exact bodyPost_ret (v := .tuple #[.agg #[.int .i64 2, .string x2, .string ⟨#[]⟩, .string ⟨#[]⟩, .int .i64 0], .int .i64 b2, .int .i64 0, .int .i64 b1]) (by simp [results, Tryz.results77, go_sem]) rfl ⟨_, rfl, ⟨b1, rfl⟩, by (repeat first | exact Below.refl _ _ | assumption | refine Below.drew ?_ | refine below_drewN ?_ _ | refine Below.more_ ?_ _ | refine Below.setCell ?_ (by first | exact Nat.le_refl _ | (simp; done) | (simp; omega)) _)⟩
        · rw [if_neg (by decide), if_pos rfl]
          by_cases hc5 : c5 ≠ 0
          · rw [if_pos hc5]
            have hc5' := Lib.hid hc5
            clear hc5
            go_enter Tryz.func77, Tryz.ntmps77
            go_wp2_with fail
            refine (T1.out _).mono ?_; rintro e w1 ⟨rfl, rfl⟩
            go_wp2_with fail
            refine (T2.out _).mono ?_; rintro e w1 ⟨rfl, rfl⟩
            go_wp2_with fail
            refine (T5.out _).mono ?_; rintro e w1 ⟨rfl, rfl⟩
            go_wp2_with fail
            exact bodyPost_ret (v := .tuple #[.agg #[.int .i64 3, .string x2, .string ⟨#[]⟩, .string ⟨#[]⟩, .int .i64 x5], .int .i64 b5, .int .i64 c5, .int .i64 b2]) (by simp [results, Tryz.results77, go_sem]) rfl ⟨_, rfl, ⟨hc5'.out, _, _, _, _, _, _, rfl⟩, by (repeat first | exact Below.refl _ _ | assumption | refine Below.drew ?_ | refine below_drewN ?_ _ | refine Below.more_ ?_ _ | refine Below.setCell ?_ (by first | exact Nat.le_refl _ | (simp; done) | (simp; omega)) _)⟩
          · rw [if_neg hc5]
            obtain rfl : c5 = 0 := Classical.byContradiction hc5
            clear hc5
            go_enter Tryz.func77, Tryz.ntmps77
            go_wp2_with fail
            refine (T1.out _).mono ?_; rintro e w1 ⟨rfl, rfl⟩
            go_wp2_with fail
            refine (T2.out _).mono ?_; rintro e w1 ⟨rfl, rfl⟩
            go_wp2_with fail
            refine (T5.out _).mono ?_; rintro e w1 ⟨rfl, rfl⟩
            go_wp2_with fail
            exact bodyPost_ret (v := .tuple #[.agg #[.int .i64 3, .string x2, .string ⟨#[]⟩, .string ⟨#[]⟩, .int .i64 x5], .int .i64 b5, .int .i64 0, .int .i64 b2]) (by simp [results, Tryz.results77, go_sem]) rfl ⟨_, rfl, ⟨b2, rfl⟩, by (repeat first | exact Below.refl _ _ | assumption | refine Below.drew ?_ | refine below_drewN ?_ _ | refine Below.more_ ?_ _ | refine Below.setCell ?_ (by first | exact Nat.le_refl _ | (simp; done) | (simp; omega)) _)⟩
        · rw [if_neg (by decide), if_neg (by decide)]
          by_cases hc3 : c3 ≠ 0
          · rw [if_pos hc3]
            have nc3 : (c3 == 0) = false := beq_eq_false_iff_ne.2 hc3
            have mc3 : (c3 != 0) = true := by rw [bne, nc3]; rfl
            have hc3' := Lib.hid hc3
            clear hc3
            go_enter Tryz.func77, Tryz.ntmps77
            go_wp2_with fail
            refine (T1.out _).mono ?_; rintro e w1 ⟨rfl, rfl⟩
            go_wp2_with fail
            refine (T2.out _).mono ?_; rintro e w1 ⟨rfl, rfl⟩
            go_wp2_with fail
            refine (T3.out _).mono ?_; rintro e w1 ⟨rfl, rfl⟩
            go_wp2_with fail
            exact bodyPost_ret (v := .tuple #[.agg #[.int .i64 4, .string x2, .string x3, .string ⟨#[]⟩, .int .i64 0], .int .i64 b3, .int .i64 c3, .int .i64 b2]) (by simp [results, Tryz.results77, go_sem]) rfl ⟨_, rfl, ⟨hc3'.out, _, _, _, _, _, _, rfl⟩, by (repeat first | exact Below.refl _ _ | assumption | refine Below.drew ?_ | refine below_drewN ?_ _ | refine Below.more_ ?_ _ | refine Below.setCell ?_ (by first | exact Nat.le_refl _ | (simp; done) | (simp; omega)) _)⟩
          · rw [if_neg hc3, if_neg (by decide)]
            obtain rfl : c3 = 0 := Classical.byContradiction hc3
            clear hc3
            by_cases hc4 : c4 ≠ 0
            · rw [if_pos hc4]
              have hc4' := Lib.hid hc4
              clear hc4
              go_enter Tryz.func77, Tryz.ntmps77
              go_wp2_with fail
              refine (T1.out _).mono ?_; rintro e w1 ⟨rfl, rfl⟩
              go_wp2_with fail
              refine (T2.out _).mono ?_; rintro e w1 ⟨rfl, rfl⟩
              go_wp2_with fail
              refine (T3.out _).mono ?_; rintro e w1 ⟨rfl, rfl⟩
              go_wp2_with fail
              refine (T4.out _).mono ?_; rintro e w1 ⟨rfl, rfl⟩
              go_wp2_with fail
              exact bodyPost_ret (v := .tuple #[.agg #[.int .i64 4, .string x2, .string x4, .string x3, .int .i64 0], .int .i64 b4, .int .i64 c4, .int .i64 b3]) (by simp [results, Tryz.results77, go_sem]) rfl ⟨_, rfl, ⟨hc4'.out, _, _, _, _, _, _, rfl⟩, by (repeat first | exact Below.refl _ _ | assumption | refine Below.drew ?_ | refine below_drewN ?_ _ | refine Below.more_ ?_ _ | refine Below.setCell ?_ (by first | exact Nat.le_refl _ | (simp; done) | (simp; omega)) _)⟩
            · rw [if_neg hc4]
              obtain rfl : c4 = 0 := Classical.byContradiction hc4
              clear hc4
              go_enter Tryz.func77, Tryz.ntmps77
              go_wp2_with fail
              refine (T1.out _).mono ?_; rintro e w1 ⟨rfl, rfl⟩
              go_wp2_with fail
              refine (T2.out _).mono ?_; rintro e w1 ⟨rfl, rfl⟩
              go_wp2_with fail
              refine (T3.out _).mono ?_; rintro e w1 ⟨rfl, rfl⟩
              go_wp2_with fail
              refine (T4.out _).mono ?_; rintro e w1 ⟨rfl, rfl⟩
              go_wp2_with fail
              exact bodyPost_ret (v := .tuple #[.agg #[.int .i64 4, .string x2, .string x4, .string x3, .int .i64 0], .int .i64 b4, .int .i64 0, .int .i64 b3]) (by simp [results, Tryz.results77, go_sem]) rfl ⟨_, rfl, ⟨b3, rfl⟩, by (repeat first | exact Below.refl _ _ | assumption | refine Below.drew ?_ | refine below_drewN ?_ _ | refine Below.more_ ?_ _ | refine Below.setCell ?_ (by first | exact Nat.le_refl _ | (simp; done) | (simp; omega)) _)⟩
end Go.Proofs.YtpkkjoiglemlgaaGreatDoor
