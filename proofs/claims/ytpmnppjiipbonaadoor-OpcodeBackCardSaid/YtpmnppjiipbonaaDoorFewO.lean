/-
  The law's few and awake (layer 9). No condition.
-/
import Derived.Test.YtpmnppjiipbonaaDoorLaw9
import Derived.Test.YtpmnppjiipbonaaDoorOpq
namespace Go.Proofs.YtpmnppjiipbonaaDoor
set_option linter.unusedVariables false
open Go.RowKit Go.Extern.Stop Go.Stop Go.Extern Go.ChangeShapes

set_option maxRecDepth 100000 in
set_option maxHeartbeats 4000000 in
theorem few_any (v : Value) (o : OOp) (w : World) (h : OpIs w v o) : Calls Tryd.prog 20 #[v] w fun e w' => ∃ b, e = .returned (.bool b) ∧ Below w.heap.size w w' := by
  obtain ⟨A, n, c, A', n', c', rfl, e1, e2, r1, r2⟩ := h
  obtain ⟨gs, ss⟩ := o
  simp only at e1 e2 r1 r2
  have hA : Below w.heap.size w (w.alloc (.cells #[.slice A n c, .slice A' n' c'] 44)) := (Below.refl _ _).alloc (Nat.le_refl _) _
  have hBx := Lib.hid (Blk.new w 44 #[.slice A n c, .slice A' n' c'])
  replace hA := Lib.hid hA
  replace r1 := Lib.hid r1
  replace r2 := Lib.hid r2
  replace e1 := Lib.hid e1
  replace e2 := Lib.hid e2
  by_cases q : 20 < n ∨ 20 < n'
  · have qq : (decide (20 < n) || decide (20 < n')) = true := by simpa using q
    have hc2 : 20 < n ∨ (n ≤ 20 ∧ 20 < n') := by omega
    clear q qq
    rcases hc2 with q1 | ⟨q1, q2⟩
    all_goals
      go_enter Tryd.func20, Tryd.ntmps20
      go_wp2_with fail
      go_wp2_with fail
      go_ret
      first | exact ⟨_, rfl, hA.out⟩ | exact ⟨.inl rfl, hA.out⟩
  · have m1 : n ≤ 20 := by omega
    have m2 : n' ≤ 20 := by omega
    clear q
    go_enter Tryd.func20, Tryd.ntmps20
    go_wp2_with fail
    go_wp2_with fail
    go_loopw [3] (fun i wr => ∃ k : Nat, i = .int .i64 k ∧ k ≤ n ∧ Below (w.heap.size + 1) (w.alloc (.cells #[.slice A n c, .slice A' n' c'] 44)) wr) (fun i _ => n + 1 - (intOf i).toNat)
    case atStart => exact ⟨0, rfl, by omega, Below.refl _ _⟩
    case round =>
      obtain ⟨k, rfl, hk, hb⟩ := hrel
      have hB := Lib.hid (hA.out.trans (hb.mono (by omega)))
      have c0 := (hBx.out.below hb (by omega)).cell 0
      have c1 := (hBx.out.below hb (by omega)).cell 1
      by_cases hlt : k < n
      · obtain ⟨ad, x, rfl, hadb, hx, hc⟩ := g3_at r1.out e1.out hlt
        obtain ⟨d0, d1, d2⟩ := hc _ hB.out
        clear hc hx
        go_wp2_with fail
        go_quiet (fail)
        go_wp2_with fail
        · go_ret
          exact ⟨_, rfl, below_drewN hB.out _⟩
        · exact ⟨⟨k + 1, by go_num, by omega, below_drewN hb _⟩, by simp [intOf]; omega⟩
      · obtain rfl : k = n := by omega
        go_wp2_with fail
        go_loopw [4] (fun i wq => ∃ k' : Nat, i = .int .i64 k' ∧ k' ≤ n' ∧ Below (w.heap.size + 1) (w.alloc (.cells #[.slice A k c, .slice A' n' c'] 44)) wq) (fun i _ => n' + 1 - (intOf i).toNat)
        case atStart => exact ⟨0, rfl, by omega, hb⟩
        case round =>
          obtain ⟨k', rfl, hk', hb'⟩ := hrel
          have hB' := Lib.hid (hA.out.trans (hb'.mono (by omega)))
          clear c0 c1
          have c0 := (hBx.out.below hb' (by omega)).cell 0
          have c1 := (hBx.out.below hb' (by omega)).cell 1
          by_cases hlt' : k' < n'
          · obtain ⟨ad, x, rfl, hadb, hx, hc⟩ := s5_at r2.out e2.out hlt'
            obtain ⟨d0, d1, d2, d3, d4⟩ := hc _ hB'.out
            clear hc hx
            go_wp2_with fail
            go_quiet (fail)
            go_wp2_with fail
            · go_ret
              exact ⟨_, rfl, below_drewN hB'.out _⟩
            · exact ⟨⟨k' + 1, by go_num, by omega, below_drewN hb' _⟩, by simp [intOf]; omega⟩
          · obtain rfl : k' = n' := by omega
            go_wp2_with fail
            go_ret
            exact ⟨_, rfl, hB'.out⟩
end Go.Proofs.YtpmnppjiipbonaaDoor
