/-
  The law OpcodePrints (layer 9). No condition.
-/
import Derived.Test.YtpmnppjiipbonaaDoorAwake9
namespace Go.Proofs.YtpmnppjiipbonaaDoor
set_option linter.unusedVariables false
open Go.RowKit Go.Extern.Stop Go.Stop Go.Extern Go.ChangeShapes

theorem places_nil9 (w : World) : Calls Tryd.prog 28 #[.nilIface] w fun e w' => e = .returned (.slice none 0 0) ∧ w = w' := by
  go_enter Tryd.func28, Tryd.ntmps28
  go_wp2_with fail
  refine wp_loop_rounds 1 ?_
  rw [rounds_succ]
  go_wp2_with fail
  go_ret
  exact ⟨rfl, rfl⟩
set_option maxRecDepth 100000 in
set_option maxHeartbeats 4000000 in
theorem opcodePrints_any {w : World} {sv : Nat → Addr} (S : Sent w sv) (T : ETy w) (v : Value) (o : OOp) (h : OpIs w v o) (hf : ∀ x ∈ o.steps, sFit x) (h1 : o.guards.length ≤ maxLen) (h2 : o.steps.length ≤ maxLen) : Calls Tryd.prog 7 #[v] w fun e w' => e = .returned (.bool true) ∧ Below w.heap.size w w' := by
  have h0 := h
  obtain ⟨A, n, c, A', n', c', rfl, _, _, _, _⟩ := h0
  have hbA : Below w.heap.size w (w.alloc (.cells #[.slice A n c, .slice A' n' c'] 44)) := (Below.refl _ _).alloc (Nat.le_refl _) _
  have hBx := Blk.new w 44 #[.slice A n c, .slice A' n' c']
  have hF := few_any _ o _ (h.below hbA)
  have hA := fun W (hW : Below w.heap.size w W) => awake09_any (S.below hW) (T.below hW)
  have hS := fun W (hW : Below w.heap.size w W) => S.below hW
  have hT := fun W (hW : Below w.heap.size w W) => T.below hW
  replace hbA := Lib.hid hbA
  replace hBx := Lib.hid hBx
  replace hF := Lib.hid hF
  replace hA := Lib.hid hA
  replace hS := Lib.hid hS
  replace hT := Lib.hid hT
  replace h := Lib.hid h
  replace hf := Lib.hid hf
  replace h1 := Lib.hid h1
  replace h2 := Lib.hid h2
  clear S T
  go_enter Tryd.func7, Tryd.ntmps7
  go_wp2_with fail
  refine (hF.out).mono ?_; rintro e w1 ⟨b, rfl, hb⟩
  have hB1 := hBx.out.below hb hBx.out.lt
  have k0 := hB1.cell 0
  have k1 := hB1.cell 1
  have hb1 : Below w.heap.size w w1 := Below.next_ hbA.out hb
  replace hB1 := Lib.hid hB1
  replace hb1 := Lib.hid hb1
  clear hb
  cases b
  · go_wp2_with fail
    refine (hA.out _ hb1.out).mono ?_; rintro e w2 ⟨rfl, hb2⟩
    go_wp2_with fail
    go_ret
    exact ⟨rfl, Below.next_ hb1.out hb2⟩
  · cases ho : oRight o
    · have hP := printO_wrong (hS.out _ hb1.out) _ o (h.out.below hb1.out) h1.out h2.out ho
      have hR := fun W (hW : Below w.heap.size w W) => refPrintO_wrong _ o W (h.out.below hW) h1.out h2.out ho
      replace hP := Lib.hid hP
      replace hR := Lib.hid hR
      go_wp2_with fail
      refine (hP.out).mono ?_; rintro e w2 ⟨rfl, hb2⟩
      have hB2 := hB1.out.below hb2 hB1.out.lt
      clear k0 k1
      have k0 := hB2.cell 0
      have k1 := hB2.cell 1
      have hb3 : Below w.heap.size w w2 := Below.next_ hb1.out hb2
      replace hb3 := Lib.hid hb3
      clear hb2
      go_wp2_with fail
      refine (hR.out _ hb3.out).mono ?_; rintro e w3 ⟨rfl, hb4⟩
      have hb5 : Below w.heap.size w w3 := Below.next_ hb3.out hb4
      replace hb5 := Lib.hid hb5
      clear hb4
      go_wp2_with fail
      refine (code_any (hS.out _ hb5.out) _ [] 7 (ErrIs.leaf 7 (by decide))).mono ?_; rintro e w4 ⟨rfl, rfl⟩
      rw [show sCode 7 = 8 from rfl]
      go_wp2_with fail
      refine (places_any (hT.out _ hb5.out) _ [] 7 (ErrIs.leaf (sv := sv) 7 (by decide)) (by decide)).mono ?_; rintro e w5 ⟨r, rfl, hown, hb6⟩
      obtain ⟨A9, c9, rfl⟩ : ∃ A9 c9, r = .slice A9 0 c9 := by
        rcases hown.2 with ⟨h, _⟩ | ⟨g, cap, cur, h, _⟩ <;> exact ⟨_, _, h⟩
      have hb7 : Below w.heap.size w w5 := Below.next_ hb5.out hb6
      replace hb7 := Lib.hid hb7
      clear hb6 hown
      go_wp2_with fail
      refine (hA.out _ hb7.out).mono ?_; rintro e w6 ⟨rfl, hb8⟩
      go_wp2_with fail
      go_ret
      exact ⟨rfl, Below.next_ hb7.out hb8⟩
    · have hP := printO_right _ o w1 (h.out.below hb1.out) hf.out ho
      have hR := fun W (hW : Below w.heap.size w W) => refPrintO_right _ o W (h.out.below hW) hf.out ho
      simp only [strL] at hP hR
      generalize bs (oBytes o) = t at *
      replace hP := Lib.hid hP
      replace hR := Lib.hid hR
      go_wp2_with fail
      refine (hP.out).mono ?_; rintro e w2 ⟨rfl, hb2⟩
      have hB2 := hB1.out.below hb2 hB1.out.lt
      clear k0 k1
      have k0 := hB2.cell 0
      have k1 := hB2.cell 1
      have hb3 : Below w.heap.size w w2 := Below.next_ hb1.out hb2
      replace hb3 := Lib.hid hb3
      clear hb2
      go_wp2_with fail
      refine (hR.out _ hb3.out).mono ?_; rintro e w3 ⟨rfl, hb4⟩
      have hb5 : Below w.heap.size w w3 := Below.next_ hb3.out hb4
      replace hb5 := Lib.hid hb5
      clear hb4
      go_wp2_with fail
      refine (code_nil _).mono ?_; rintro e w4 ⟨rfl, rfl⟩
      go_wp2_with fail
      refine (places_nil9 _).mono ?_; rintro e w5 ⟨rfl, rfl⟩
      go_wp2_with fail
      refine (hA.out _ hb5.out).mono ?_; rintro e w6 ⟨rfl, hb8⟩
      go_wp2_with fail
      go_ret
      exact ⟨rfl, Below.next_ hb5.out hb8⟩
end Go.Proofs.YtpmnppjiipbonaaDoor
