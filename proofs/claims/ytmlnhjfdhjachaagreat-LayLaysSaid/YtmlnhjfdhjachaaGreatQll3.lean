import Derived.Test.YtmlnhjfdhjachaaGreatQll2
/-
  Acts: which may be. No condition.
-/
namespace Go.Proofs.YtmlnhjfdhjachaaGreat
set_option linter.unusedVariables false
open Go.ChangeShapes Go.WideShapes Go.ChangeAt Go.RowKit
open Go.ChangeMaps (setBlock)

structure PAct where
  kind : Int
  block : Int
  cell : Int
  old : Int
  new : Int
  text : ByteArray
def PAct.val (x : PAct) : Value := .agg #[.int .i64 x.kind, .int .u64 x.block, .int .i64 x.cell, .int .u64 x.old, .int .u64 x.new, .string x.text]
structure PAct.Ok (x : PAct) : Prop where
  kind : -9223372036854775808 ≤ x.kind ∧ x.kind ≤ 9223372036854775807
  block : 0 ≤ x.block ∧ x.block ≤ 18446744073709551615
  cell : -9223372036854775808 ≤ x.cell ∧ x.cell ≤ 9223372036854775807
  old : 0 ≤ x.old ∧ x.old ≤ 18446744073709551615
  new : 0 ≤ x.new ∧ x.new ≤ 18446744073709551615
  text : x.text.size ≤ 9223372036854775807

/-- May an act be? -/
def PAct.fit (x : PAct) : Bool :=
  if x.kind = 3 then x.text.toList.isEmpty
  else if x.kind = 2 ∨ x.kind = 4 then x.old == 0 && x.text.toList.isEmpty
  else if x.kind = 1 ∨ x.kind = 10 then x.old == 0 && x.new == 0 && x.text.toList.isEmpty
  else if x.kind = 6 ∨ x.kind = 7 then x.cell == 0 && x.old == 0 && x.new == 0 && x.text.toList.isEmpty
  else if x.kind = 5 then x.block == 0 && x.old == 0 && x.new == 0
  else if x.kind = 0 ∨ x.kind = 8 ∨ x.kind = 9 then x.block == 0 && x.cell == 0 && x.old == 0 && x.new == 0 && x.text.toList.isEmpty
  else false
def PAct.right (x : PAct) : Bool := decide (0 ≤ x.cell) && decide (x.text.size ≤ 4096) && x.fit

set_option maxRecDepth 100000 in
set_option maxHeartbeats 1000000 in
theorem right_0 (b c o n : Int) (s : ByteArray) (w : World) (hc : 0 ≤ c) (hs : s.size ≤ 4096) :
    Calls Tryz.prog 96 #[.agg #[.int .i64 0, .int .u64 b, .int .i64 c, .int .u64 o, .int .u64 n, .string s]] w fun e w' => e = .returned (.bool (PAct.fit ⟨0, b, c, o, n, s⟩)) ∧ Below w.heap.size w w' := by
  go_enter Tryz.func96, Tryz.ntmps96
  go_wp2_with fail
  all_goals
    go_ret
    refine ⟨ret_b (by simp [PAct.fit, *]), ?_⟩
    (repeat first | exact Below.refl _ _ | assumption | refine Below.drew ?_ | refine below_drewN ?_ _ | refine Below.more_ ?_ _ | refine Below.setCell ?_ (by first | exact Nat.le_refl _ | (simp; done) | (simp; omega)) _)
set_option maxRecDepth 100000 in
set_option maxHeartbeats 1000000 in
theorem right_1 (b c o n : Int) (s : ByteArray) (w : World) (hc : 0 ≤ c) (hs : s.size ≤ 4096) :
    Calls Tryz.prog 96 #[.agg #[.int .i64 1, .int .u64 b, .int .i64 c, .int .u64 o, .int .u64 n, .string s]] w fun e w' => e = .returned (.bool (PAct.fit ⟨1, b, c, o, n, s⟩)) ∧ Below w.heap.size w w' := by
  go_enter Tryz.func96, Tryz.ntmps96
  go_wp2_with fail
  all_goals
    go_ret
    refine ⟨ret_b (by simp [PAct.fit, *]), ?_⟩
    (repeat first | exact Below.refl _ _ | assumption | refine Below.drew ?_ | refine below_drewN ?_ _ | refine Below.more_ ?_ _ | refine Below.setCell ?_ (by first | exact Nat.le_refl _ | (simp; done) | (simp; omega)) _)
set_option maxRecDepth 100000 in
set_option maxHeartbeats 1000000 in
theorem right_2 (b c o n : Int) (s : ByteArray) (w : World) (hc : 0 ≤ c) (hs : s.size ≤ 4096) :
    Calls Tryz.prog 96 #[.agg #[.int .i64 2, .int .u64 b, .int .i64 c, .int .u64 o, .int .u64 n, .string s]] w fun e w' => e = .returned (.bool (PAct.fit ⟨2, b, c, o, n, s⟩)) ∧ Below w.heap.size w w' := by
  go_enter Tryz.func96, Tryz.ntmps96
  go_wp2_with fail
  all_goals
    go_ret
    refine ⟨ret_b (by simp [PAct.fit, *]), ?_⟩
    (repeat first | exact Below.refl _ _ | assumption | refine Below.drew ?_ | refine below_drewN ?_ _ | refine Below.more_ ?_ _ | refine Below.setCell ?_ (by first | exact Nat.le_refl _ | (simp; done) | (simp; omega)) _)
set_option maxRecDepth 100000 in
set_option maxHeartbeats 1000000 in
theorem right_3 (b c o n : Int) (s : ByteArray) (w : World) (hc : 0 ≤ c) (hs : s.size ≤ 4096) :
    Calls Tryz.prog 96 #[.agg #[.int .i64 3, .int .u64 b, .int .i64 c, .int .u64 o, .int .u64 n, .string s]] w fun e w' => e = .returned (.bool (PAct.fit ⟨3, b, c, o, n, s⟩)) ∧ Below w.heap.size w w' := by
  go_enter Tryz.func96, Tryz.ntmps96
  go_wp2_with fail
  all_goals
    go_ret
    refine ⟨ret_b (by simp [PAct.fit, *]), ?_⟩
    (repeat first | exact Below.refl _ _ | assumption | refine Below.drew ?_ | refine below_drewN ?_ _ | refine Below.more_ ?_ _ | refine Below.setCell ?_ (by first | exact Nat.le_refl _ | (simp; done) | (simp; omega)) _)
set_option maxRecDepth 100000 in
set_option maxHeartbeats 1000000 in
theorem right_4 (b c o n : Int) (s : ByteArray) (w : World) (hc : 0 ≤ c) (hs : s.size ≤ 4096) :
    Calls Tryz.prog 96 #[.agg #[.int .i64 4, .int .u64 b, .int .i64 c, .int .u64 o, .int .u64 n, .string s]] w fun e w' => e = .returned (.bool (PAct.fit ⟨4, b, c, o, n, s⟩)) ∧ Below w.heap.size w w' := by
  go_enter Tryz.func96, Tryz.ntmps96
  go_wp2_with fail
  all_goals
    go_ret
    refine ⟨ret_b (by simp [PAct.fit, *]), ?_⟩
    (repeat first | exact Below.refl _ _ | assumption | refine Below.drew ?_ | refine below_drewN ?_ _ | refine Below.more_ ?_ _ | refine Below.setCell ?_ (by first | exact Nat.le_refl _ | (simp; done) | (simp; omega)) _)
set_option maxRecDepth 100000 in
set_option maxHeartbeats 1000000 in
theorem right_5 (b c o n : Int) (s : ByteArray) (w : World) (hc : 0 ≤ c) (hs : s.size ≤ 4096) :
    Calls Tryz.prog 96 #[.agg #[.int .i64 5, .int .u64 b, .int .i64 c, .int .u64 o, .int .u64 n, .string s]] w fun e w' => e = .returned (.bool (PAct.fit ⟨5, b, c, o, n, s⟩)) ∧ Below w.heap.size w w' := by
  go_enter Tryz.func96, Tryz.ntmps96
  go_wp2_with fail
  all_goals
    go_ret
    refine ⟨ret_b (by simp [PAct.fit, *]), ?_⟩
    (repeat first | exact Below.refl _ _ | assumption | refine Below.drew ?_ | refine below_drewN ?_ _ | refine Below.more_ ?_ _ | refine Below.setCell ?_ (by first | exact Nat.le_refl _ | (simp; done) | (simp; omega)) _)
set_option maxRecDepth 100000 in
set_option maxHeartbeats 1000000 in
theorem right_6 (b c o n : Int) (s : ByteArray) (w : World) (hc : 0 ≤ c) (hs : s.size ≤ 4096) :
    Calls Tryz.prog 96 #[.agg #[.int .i64 6, .int .u64 b, .int .i64 c, .int .u64 o, .int .u64 n, .string s]] w fun e w' => e = .returned (.bool (PAct.fit ⟨6, b, c, o, n, s⟩)) ∧ Below w.heap.size w w' := by
  go_enter Tryz.func96, Tryz.ntmps96
  go_wp2_with fail
  all_goals
    go_ret
    refine ⟨ret_b (by simp [PAct.fit, *]), ?_⟩
    (repeat first | exact Below.refl _ _ | assumption | refine Below.drew ?_ | refine below_drewN ?_ _ | refine Below.more_ ?_ _ | refine Below.setCell ?_ (by first | exact Nat.le_refl _ | (simp; done) | (simp; omega)) _)
set_option maxRecDepth 100000 in
set_option maxHeartbeats 1000000 in
theorem right_7 (b c o n : Int) (s : ByteArray) (w : World) (hc : 0 ≤ c) (hs : s.size ≤ 4096) :
    Calls Tryz.prog 96 #[.agg #[.int .i64 7, .int .u64 b, .int .i64 c, .int .u64 o, .int .u64 n, .string s]] w fun e w' => e = .returned (.bool (PAct.fit ⟨7, b, c, o, n, s⟩)) ∧ Below w.heap.size w w' := by
  go_enter Tryz.func96, Tryz.ntmps96
  go_wp2_with fail
  all_goals
    go_ret
    refine ⟨ret_b (by simp [PAct.fit, *]), ?_⟩
    (repeat first | exact Below.refl _ _ | assumption | refine Below.drew ?_ | refine below_drewN ?_ _ | refine Below.more_ ?_ _ | refine Below.setCell ?_ (by first | exact Nat.le_refl _ | (simp; done) | (simp; omega)) _)
set_option maxRecDepth 100000 in
set_option maxHeartbeats 1000000 in
theorem right_8 (b c o n : Int) (s : ByteArray) (w : World) (hc : 0 ≤ c) (hs : s.size ≤ 4096) :
    Calls Tryz.prog 96 #[.agg #[.int .i64 8, .int .u64 b, .int .i64 c, .int .u64 o, .int .u64 n, .string s]] w fun e w' => e = .returned (.bool (PAct.fit ⟨8, b, c, o, n, s⟩)) ∧ Below w.heap.size w w' := by
  go_enter Tryz.func96, Tryz.ntmps96
  go_wp2_with fail
  all_goals
    go_ret
    refine ⟨ret_b (by simp [PAct.fit, *]), ?_⟩
    (repeat first | exact Below.refl _ _ | assumption | refine Below.drew ?_ | refine below_drewN ?_ _ | refine Below.more_ ?_ _ | refine Below.setCell ?_ (by first | exact Nat.le_refl _ | (simp; done) | (simp; omega)) _)
set_option maxRecDepth 100000 in
set_option maxHeartbeats 1000000 in
theorem right_9 (b c o n : Int) (s : ByteArray) (w : World) (hc : 0 ≤ c) (hs : s.size ≤ 4096) :
    Calls Tryz.prog 96 #[.agg #[.int .i64 9, .int .u64 b, .int .i64 c, .int .u64 o, .int .u64 n, .string s]] w fun e w' => e = .returned (.bool (PAct.fit ⟨9, b, c, o, n, s⟩)) ∧ Below w.heap.size w w' := by
  go_enter Tryz.func96, Tryz.ntmps96
  go_wp2_with fail
  all_goals
    go_ret
    refine ⟨ret_b (by simp [PAct.fit, *]), ?_⟩
    (repeat first | exact Below.refl _ _ | assumption | refine Below.drew ?_ | refine below_drewN ?_ _ | refine Below.more_ ?_ _ | refine Below.setCell ?_ (by first | exact Nat.le_refl _ | (simp; done) | (simp; omega)) _)
set_option maxRecDepth 100000 in
set_option maxHeartbeats 1000000 in
theorem right_10 (b c o n : Int) (s : ByteArray) (w : World) (hc : 0 ≤ c) (hs : s.size ≤ 4096) :
    Calls Tryz.prog 96 #[.agg #[.int .i64 10, .int .u64 b, .int .i64 c, .int .u64 o, .int .u64 n, .string s]] w fun e w' => e = .returned (.bool (PAct.fit ⟨10, b, c, o, n, s⟩)) ∧ Below w.heap.size w w' := by
  go_enter Tryz.func96, Tryz.ntmps96
  go_wp2_with fail
  all_goals
    go_ret
    refine ⟨ret_b (by simp [PAct.fit, *]), ?_⟩
    (repeat first | exact Below.refl _ _ | assumption | refine Below.drew ?_ | refine below_drewN ?_ _ | refine Below.more_ ?_ _ | refine Below.setCell ?_ (by first | exact Nat.le_refl _ | (simp; done) | (simp; omega)) _)
set_option maxRecDepth 100000 in
set_option maxHeartbeats 1000000 in
theorem right_other (k b c o n : Int) (s : ByteArray) (w : World) (hc : 0 ≤ c) (hs : s.size ≤ 4096) (hk : k < 0 ∨ 10 < k) :
    Calls Tryz.prog 96 #[.agg #[.int .i64 k, .int .u64 b, .int .i64 c, .int .u64 o, .int .u64 n, .string s]] w fun e w' => e = .returned (.bool (PAct.fit ⟨k, b, c, o, n, s⟩)) ∧ Below w.heap.size w w' := by
  have hf : PAct.fit ⟨k, b, c, o, n, s⟩ = false := by
    unfold PAct.fit
    simp only
    rw [if_neg (by omega), if_neg (by omega), if_neg (by omega), if_neg (by omega), if_neg (by omega), if_neg (by omega)]
  rw [hf]
  clear hf
  by_cases h0 : k < 0
  · clear hk
    go_enter Tryz.func96, Tryz.ntmps96
    go_wp2_with fail
    go_ret
    refine ⟨rfl, ?_⟩
    (repeat first | exact Below.refl _ _ | assumption | refine Below.drew ?_ | refine below_drewN ?_ _ | refine Below.more_ ?_ _ | refine Below.setCell ?_ (by first | exact Nat.le_refl _ | (simp; done) | (simp; omega)) _)
  · have h1 : 10 < k := by omega
    clear hk
    go_enter Tryz.func96, Tryz.ntmps96
    go_wp2_with fail
    go_ret
    refine ⟨rfl, ?_⟩
    (repeat first | exact Below.refl _ _ | assumption | refine Below.drew ?_ | refine below_drewN ?_ _ | refine Below.more_ ?_ _ | refine Below.setCell ?_ (by first | exact Nat.le_refl _ | (simp; done) | (simp; omega)) _)
set_option maxRecDepth 100000 in
theorem right_any (x : PAct) (w : World) (hsz : x.text.size ≤ 9223372036854775807) : Calls Tryz.prog 96 #[x.val] w fun e w' => e = .returned (.bool x.right) ∧ Below w.heap.size w w' := by
  obtain ⟨k, b, c, o, n, s⟩ := x
  unfold PAct.right PAct.val
  by_cases hc : 0 ≤ c
  · by_cases hs : s.size ≤ 4096
    · simp only [hc, hs, decide_true, Bool.true_and]
      by_cases hk : k < 0 ∨ 10 < k
      · exact right_other k b c o n s w hc hs hk
      · rcases (by omega : k = 0 ∨ k = 1 ∨ k = 2 ∨ k = 3 ∨ k = 4 ∨ k = 5 ∨ k = 6 ∨ k = 7 ∨ k = 8 ∨ k = 9 ∨ k = 10) with rfl | rfl | rfl | rfl | rfl | rfl | rfl | rfl | rfl | rfl | rfl
        · exact right_0 b c o n s w hc hs
        · exact right_1 b c o n s w hc hs
        · exact right_2 b c o n s w hc hs
        · exact right_3 b c o n s w hc hs
        · exact right_4 b c o n s w hc hs
        · exact right_5 b c o n s w hc hs
        · exact right_6 b c o n s w hc hs
        · exact right_7 b c o n s w hc hs
        · exact right_8 b c o n s w hc hs
        · exact right_9 b c o n s w hc hs
        · exact right_10 b c o n s w hc hs
    · have hs' : ¬ s.size ≤ 4096 := hs
      simp only [decide_eq_false hs', Bool.and_false, Bool.false_and]
      go_enter Tryz.func96, Tryz.ntmps96
      go_wp2_with fail
      go_ret
      refine ⟨rfl, ?_⟩
      (repeat first | exact Below.refl _ _ | assumption | refine Below.drew ?_ | refine below_drewN ?_ _ | refine Below.more_ ?_ _ | refine Below.setCell ?_ (by first | exact Nat.le_refl _ | (simp; done) | (simp; omega)) _)
  · simp only [decide_eq_false hc, Bool.false_and]
    go_enter Tryz.func96, Tryz.ntmps96
    go_wp2_with fail
    go_ret
    refine ⟨rfl, ?_⟩
    (repeat first | exact Below.refl _ _ | assumption | refine Below.drew ?_ | refine below_drewN ?_ _ | refine Below.more_ ?_ _ | refine Below.setCell ?_ (by first | exact Nat.le_refl _ | (simp; done) | (simp; omega)) _)
end Go.Proofs.YtmlnhjfdhjachaaGreat
