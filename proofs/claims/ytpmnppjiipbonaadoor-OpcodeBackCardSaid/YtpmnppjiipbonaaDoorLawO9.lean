/-
  The law OpcodeBack (layer 9). No condition.
-/
import Derived.Test.YtpmnppjiipbonaaDoorOsz
namespace Go.Proofs.YtpmnppjiipbonaaDoor
set_option linter.unusedVariables false
open Go.RowKit Go.Extern.Stop Go.Stop Go.Extern Go.ChangeShapes

theorem pTake_front {o : OOp} (s : ByteArray) (ho : oRight o = true) (hf : ∀ x ∈ o.steps, sFit x) : pTake (bs (oBytes o) ++ s) 0 = .ok (o, ((bs (oBytes o)).size : Int)) := by
  have h : Seg (bs (oBytes o) ++ s) 0 (oBytes o) := by
    have := Seg.of (x := ByteArray.empty) (y := s) (l := oBytes o)
    simpa using this
  have := pTake_seg ho hf h
  rw [show ((0 : Nat) : Int) = 0 from rfl] at this
  rw [this, size_bs]
  simp
set_option maxRecDepth 100000 in
set_option maxHeartbeats 4000000 in
theorem opcodeBack_any {w : World} {sv : Nat → Addr} (S : Sent w sv) (T : ETy w) (v : Value) (o : OOp) (s : ByteArray) (h : OpIs w v o) (hf : ∀ x ∈ o.steps, sFit x) (h1 : o.guards.length ≤ maxLen) (h2 : o.steps.length ≤ maxLen) : Calls Tryd.prog 6 #[v, .string s] w fun e w' => e = .returned (.bool true) ∧ Below w.heap.size w w' := by
  have h0 := h
  obtain ⟨A, n, c, A', n', c', rfl, _, _, _, _⟩ := h0
  have hbA : Below w.heap.size w (w.alloc (.cells #[.slice A n c, .slice A' n' c'] 44)) := (Below.refl _ _).alloc (Nat.le_refl _) _
  have hBx := Blk.new w 44 #[.slice A n c, .slice A' n' c']
  have hF := few_any _ o _ (h.below hbA)
  have hA := fun W (hW : Below w.heap.size w W) => awake09_any (S.below hW) (T.below hW)
  have hS := fun W (hW : Below w.heap.size w W) => S.below hW
  have hT := fun W (hW : Below w.heap.size w W) => T.below hW
  replace hbA := Lib.hid hbA
  replace hBx := Lib.hid hBx
  replace hF := Lib.hid hF
  replace hA := Lib.hid hA
  replace hS := Lib.hid hS
  replace hT := Lib.hid hT
  replace h := Lib.hid h
  replace hf := Lib.hid hf
  replace h1 := Lib.hid h1
  replace h2 := Lib.hid h2
  clear S T
  go_enter Tryd.func6, Tryd.ntmps6
  go_wp2_with fail
  refine (hF.out).mono ?_; rintro e w1 ⟨b, rfl, hb⟩
  have hB1 := hBx.out.below hb hBx.out.lt
  have k0 := hB1.cell 0
  have k1 := hB1.cell 1
  have hb1 : Below w.heap.size w w1 := Below.next_ hbA.out hb
  replace hB1 := Lib.hid hB1
  replace hb1 := Lib.hid hb1
  clear hb
  cases b
  · go_wp2_with fail
    refine (hA.out _ hb1.out).mono ?_; rintro e w2 ⟨rfl, hb2⟩
    go_wp2_with fail
    go_ret
    exact ⟨rfl, Below.next_ hb1.out hb2⟩
  · by_cases hs : 1000 < s.size
    · go_wp2_with fail
      refine (hA.out _ hb1.out).mono ?_; rintro e w2 ⟨rfl, hb2⟩
      go_wp2_with fail
      go_ret
      exact ⟨rfl, Below.next_ hb1.out hb2⟩
    · cases ho : oRight o
      · have hP := printO_wrong (hS.out _ hb1.out) _ o (h.out.below hb1.out) h1.out h2.out ho
        replace hP := Lib.hid hP
        go_wp2_with fail
        refine (hP.out).mono ?_; rintro e w2 ⟨rfl, hb2⟩
        have hb3 : Below w.heap.size w w2 := Below.next_ hb1.out hb2
        have hQ := opParse_uni (hS.out _ hb3) (hT.out _ hb3) s (by omega)
        replace hb3 := Lib.hid hb3
        clear hb2 k0 k1
        cases hp : pParse s with
        | error er =>
          have hne := (cOk_idx (pParse_cOk hp)).2.2.1
          rw [hp] at hQ
          simp only [rOp, rC, rA, rP] at hQ
          replace hQ := Lib.hid hQ
          go_wp2_with fail
          refine (hQ.out).mono ?_; rintro e w3 ⟨B, m, d, B', m', d', err, rfl, hI, hW, hb4⟩
          obtain ⟨_, hE, _⟩ := hW.resolve_left fun h => hne h.1
          obtain ⟨ty, u, rfl⟩ := hE.iface
          have hb5 := Below.next_ hb3.out hb4
          replace hb5 := Lib.hid hb5
          replace hI := Lib.hid hI
          clear hb4 hE hW
          go_wp2_with fail
          refine (sameO_any _ _ ⟨[], []⟩ ⟨[], []⟩ _ (hI.out.is.below ((Below.refl _ _).alloc (Nat.le_refl _) _)) (OpIs.zero _) (Nat.zero_le _) (Nat.zero_le _) (Nat.zero_le _) (Nat.zero_le _)).mono ?_; rintro e w4 ⟨rfl, hb6⟩
          rw [oSame_self]
          have hb7 : Below w.heap.size w w4 := Below.next_ (hb5.out.alloc hb5.out.size _) hb6
          go_wp2_with fail
          refine (hA.out _ hb7).mono ?_; rintro e w5 ⟨rfl, hb8⟩
          go_wp2_with fail
          go_ret
          exact ⟨rfl, Below.next_ hb7 hb8⟩
        | ok o' =>
          obtain ⟨r1, r2, r3⟩ := back_pParse hp
          rw [hp] at hQ
          simp only [rOp, rC, rA, rP] at hQ
          replace hQ := Lib.hid hQ
          replace r2 := Lib.hid r2
          go_wp2_with fail
          refine (hQ.out).mono ?_; rintro e w3 ⟨B, m, d, B', m', d', err, rfl, hI, hW, hb4⟩
          obtain ⟨_, rfl⟩ := hW.resolve_right fun h => h.1 rfl
          have hb5 := Below.next_ hb3.out hb4
          have hbx : Below w3.heap.size w3 (w3.alloc (.cells #[.slice B m d, .slice B' m' d'] 44)) := (Below.refl _ _).alloc (Nat.le_refl _) _
          have hP2 := printO_right _ o' _ (hI.is.below hbx) r3 r1
          rw [show strL (oBytes o') = .string s from congrArg Value.string r2.out] at hP2
          have hb6 := Below.next_ hb5 hbx
          replace hP2 := Lib.hid hP2
          replace hb6 := Lib.hid hb6
          clear hb4 hb5 hbx hW hI
          go_wp2_with fail
          refine (hP2.out).mono ?_; rintro e w4 ⟨rfl, hb7⟩
          have hb8 := Below.next_ hb6.out hb7
          go_wp2_with fail
          refine (hA.out _ hb8).mono ?_; rintro e w5 ⟨rfl, hb9⟩
          go_wp2_with fail
          go_ret
          exact ⟨rfl, Below.next_ hb8 hb9⟩
      · have hP := printO_right _ o w1 (h.out.below hb1.out) hf.out ho
        have hpb := pParse_back ho hf.out
        have hpt := pTake_front s ho hf.out
        have hsz : (bs (oBytes o)).size ≤ 2000 := by rw [size_bs]; exact oBytes_len ho hf.out
        simp only [strL] at hP
        generalize bs (oBytes o) = t at *
        replace hP := Lib.hid hP
        replace hpb := Lib.hid hpb
        replace hpt := Lib.hid hpt
        go_wp2_with fail
        refine (hP.out).mono ?_; rintro e w2 ⟨rfl, hb2⟩
        have hB2 := hB1.out.below hb2 hB1.out.lt
        have hb3 : Below w.heap.size w w2 := Below.next_ hb1.out hb2
        replace hB2 := Lib.hid hB2
        replace hb3 := Lib.hid hb3
        have hQ := opParse_uni (hS.out _ hb3.out) (hT.out _ hb3.out) t (by omega)
        rw [hpb.out] at hQ
        simp only [rOp, rC, rA, rP] at hQ
        replace hQ := Lib.hid hQ
        clear hb2 k0 k1
        go_wp2_with fail
        refine (hQ.out).mono ?_; rintro e w3 ⟨B, m, d, B', m', d', err, rfl, hI, hW, hb4⟩
        obtain ⟨_, rfl⟩ := hW.resolve_right fun h => h.1 rfl
        have hb5 := Below.next_ hb3.out hb4
        have hB3 := hB2.out.below hb4 hB2.out.lt
        have z2 := hb4.size
        have hbx : Below w3.heap.size w3 (w3.alloc (.cells #[.slice B m d, .slice B' m' d'] 44)) := (Below.refl _ _).alloc (Nat.le_refl _) _
        have hb6 := Below.next_ hb5 hbx
        have hK := opTake_uni (hS.out _ hb6) (hT.out _ hb6) (t ++ s) 0 (by simp; omega)
        rw [hpt.out] at hK
        simp only [rOp, rFst, rC, rA, rP, rN] at hK
        have hI1 := hI.is.below hbx
        have hBp := Blk.new w3 44 #[.slice B m d, .slice B' m' d']
        have hBo := hB3.below hbx hB3.lt
        replace hK := Lib.hid hK
        replace hI1 := Lib.hid hI1
        replace hBp := Lib.hid hBp
        replace hBo := Lib.hid hBo
        replace hb6 := Lib.hid hb6
        clear hb4 hb5 hB3 hI hW hbx
        go_wp2_with fail
        refine (hK.out).mono ?_; rintro e w4 ⟨C, j, f, C', j', f', err, rfl, hI4, hW4, hb7⟩
        obtain ⟨_, rfl⟩ := hW4.resolve_right fun h => h.1 rfl
        have hBp4 := hBp.out.below hb7 hBp.out.lt
        have hBo4 := hBo.out.below hb7 hBo.out.lt
        have hIp4 := hI1.out.below hb7
        have hb8 := Below.next_ hb6.out hb7
        have p0 := hBp4.cell 0
        have p1 := hBp4.cell 1
        have o0 := hBo4.cell 0
        have o1 := hBo4.cell 1
        have zo := hBo4.lt
        have zp := hBp4.lt
        replace hBp4 := Lib.hid hBp4
        replace hBo4 := Lib.hid hBo4
        replace hIp4 := Lib.hid hIp4
        replace hb8 := Lib.hid hb8
        clear hb7 hW4 hK
        have hx4 : Below w4.heap.size w4 (w4.alloc (.cells #[.slice C j f, .slice C' j' f'] 44)) := (Below.refl _ _).alloc (Nat.le_refl _) _
        have hSm := sameO_any (.agg #[.slice A n c, .slice A' n' c']) (.agg #[.slice B m d, .slice B' m' d']) o o (w4.alloc (.cells #[.slice C j f, .slice C' j' f'] 44)) ((h.out.below hb8.out).below hx4) (hIp4.out.below hx4) (right_len ho).1 (right_len ho).2 (right_len ho).1 (right_len ho).2
        rw [oSame_self] at hSm
        have hBq := Blk.new w4 44 #[.slice C j f, .slice C' j' f']
        have hBo5 := hBo4.out.below hx4 hBo4.out.lt
        have hIq := hI4.is.below hx4
        have hb9 := Below.next_ hb8.out hx4
        replace hSm := Lib.hid hSm
        replace hBq := Lib.hid hBq
        replace hBo5 := Lib.hid hBo5
        replace hIq := Lib.hid hIq
        replace hb9 := Lib.hid hb9
        clear hx4 hI4
        go_wp2_with fail
        refine (hSm.out).mono ?_; rintro e w5 ⟨rfl, hb10⟩
        have hBq6 := hBq.out.below hb10 hBq.out.lt
        have hBo6 := hBo5.out.below hb10 hBo5.out.lt
        have hIq6 := hIq.out.below hb10
        have hb11 := Below.next_ hb9.out hb10
        have hSn := sameO_any (.agg #[.slice A n c, .slice A' n' c']) (.agg #[.slice C j f, .slice C' j' f']) o o w5 (h.out.below hb11) hIq6 (right_len ho).1 (right_len ho).2 (right_len ho).1 (right_len ho).2
        rw [oSame_self] at hSn
        clear p0 p1 o0 o1 zo zp
        have p0 := hBq6.cell 0
        have p1 := hBq6.cell 1
        have o0 := hBo6.cell 0
        have o1 := hBo6.cell 1
        replace hSn := Lib.hid hSn
        replace hb11 := Lib.hid hb11
        clear hBq6 hBo6 hIq6 hb10
        go_wp2_with fail
        refine (hSn.out).mono ?_; rintro e w6 ⟨rfl, hb12⟩
        have hb3 := Below.next_ hb11.out hb12
        clear p0 p1 o0 o1 hb12
        clear hb11 hSn hIq hBq hBo5 hb9 hSm hBp4 hBo4 hIp4 hb8
        have hQ := opParse_uni (hS.out _ hb3) (hT.out _ hb3) s (by omega)
        replace hb3 := Lib.hid hb3
        cases hp : pParse s with
        | error er =>
          have hne := (cOk_idx (pParse_cOk hp)).2.2.1
          rw [hp] at hQ
          simp only [rOp, rC, rA, rP] at hQ
          replace hQ := Lib.hid hQ
          go_wp2_with fail
          refine (hQ.out).mono ?_; rintro e w3 ⟨B, m, d, B', m', d', err, rfl, hI, hW, hb4⟩
          obtain ⟨_, hE, _⟩ := hW.resolve_left fun h => hne h.1
          obtain ⟨ty, u, rfl⟩ := hE.iface
          have hb5 := Below.next_ hb3.out hb4
          replace hb5 := Lib.hid hb5
          replace hI := Lib.hid hI
          clear hb4 hE hW
          go_wp2_with fail
          refine (sameO_any _ _ ⟨[], []⟩ ⟨[], []⟩ _ (hI.out.is.below ((Below.refl _ _).alloc (Nat.le_refl _) _)) (OpIs.zero _) (Nat.zero_le _) (Nat.zero_le _) (Nat.zero_le _) (Nat.zero_le _)).mono ?_; rintro e w4 ⟨rfl, hb6⟩
          rw [oSame_self]
          have hb7 : Below w.heap.size w w4 := Below.next_ (hb5.out.alloc hb5.out.size _) hb6
          go_wp2_with fail
          refine (hA.out _ hb7).mono ?_; rintro e w5 ⟨rfl, hb8⟩
          go_wp2_with fail
          go_ret
          exact ⟨rfl, Below.next_ hb7 hb8⟩
        | ok o' =>
          obtain ⟨r1, r2, r3⟩ := back_pParse hp
          rw [hp] at hQ
          simp only [rOp, rC, rA, rP] at hQ
          replace hQ := Lib.hid hQ
          replace r2 := Lib.hid r2
          go_wp2_with fail
          refine (hQ.out).mono ?_; rintro e w3 ⟨B, m, d, B', m', d', err, rfl, hI, hW, hb4⟩
          obtain ⟨_, rfl⟩ := hW.resolve_right fun h => h.1 rfl
          have hb5 := Below.next_ hb3.out hb4
          have hbx : Below w3.heap.size w3 (w3.alloc (.cells #[.slice B m d, .slice B' m' d'] 44)) := (Below.refl _ _).alloc (Nat.le_refl _) _
          have hP2 := printO_right _ o' _ (hI.is.below hbx) r3 r1
          rw [show strL (oBytes o') = .string s from congrArg Value.string r2.out] at hP2
          have hb6 := Below.next_ hb5 hbx
          replace hP2 := Lib.hid hP2
          replace hb6 := Lib.hid hb6
          clear hb4 hb5 hbx hW hI
          go_wp2_with fail
          refine (hP2.out).mono ?_; rintro e w4 ⟨rfl, hb7⟩
          have hb8 := Below.next_ hb6.out hb7
          go_wp2_with fail
          refine (hA.out _ hb8).mono ?_; rintro e w5 ⟨rfl, hb9⟩
          go_wp2_with fail
          go_ret
          exact ⟨rfl, Below.next_ hb8 hb9⟩
end Go.Proofs.YtpmnppjiipbonaaDoor
