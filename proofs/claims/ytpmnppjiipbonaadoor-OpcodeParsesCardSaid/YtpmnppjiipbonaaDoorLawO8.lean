/-
  The law OpcodeParses (layer 9). No condition.
-/
import Derived.Test.YtpmnppjiipbonaaDoorUni9
namespace Go.Proofs.YtpmnppjiipbonaaDoor
set_option linter.unusedVariables false
open Go.RowKit Go.Extern.Stop Go.Stop Go.Extern Go.ChangeShapes

set_option maxRecDepth 100000 in
set_option maxHeartbeats 4000000 in
theorem opcodeParses_any {w : World} {sv : Nat → Addr} (S : Sent w sv) (T : ETy w) (s : ByteArray) (p : Int) : Calls Tryd.prog 8 #[.string s, .int .i64 p] w fun e w' => e = .returned (.bool true) ∧ Below w.heap.size w w' := by
  have hA := fun W (hW : Below w.heap.size w W) => awake09_any (S.below hW) (T.below hW)
  by_cases hs : 1000 < s.size
  · replace hA := Lib.hid hA
    clear S T
    go_enter Tryd.func8, Tryd.ntmps8
    go_wp2_with fail
    refine (hA.out _ (Below.refl _ _)).mono ?_; rintro e w1 ⟨rfl, hb⟩
    go_wp2_with fail
    go_ret
    exact ⟨rfl, hb⟩
  · have h6 : s.size ≤ 1000000 := by omega
    have P1 := opParse_uni S T s h6
    have P2 := fun W => refParseO_uni (w := W) s h6
    have Q1 := fun W (hW : Below w.heap.size w W) => opTake_uni (S.below hW) (T.below hW) s p h6
    have Q2 := fun W => refTakeO_uni (w := W) s p h6
    have L1 := rOp_len_parse s
    have L2 := rOp_len_take s p
    have hS := fun W (hW : Below w.heap.size w W) => S.below hW
    have hT := fun W (hW : Below w.heap.size w W) => T.below hW
    generalize rOp (pParse s) = a1 at *
    generalize rC (pParse s) = c1 at *
    generalize rA (pParse s) = at1 at *
    generalize rP (pParse s) = pt1 at *
    generalize rOp (rFst (pTake s p)) = a2 at *
    generalize rC (pTake s p) = c2 at *
    generalize rA (pTake s p) = at2 at *
    generalize rP (pTake s p) = pt2 at *
    generalize rN (pTake s p) = nx at *
    replace hA := Lib.hid hA
    replace P1 := Lib.hid P1
    replace P2 := Lib.hid P2
    replace Q1 := Lib.hid Q1
    replace Q2 := Lib.hid Q2
    replace L1 := Lib.hid L1
    replace L2 := Lib.hid L2
    replace hS := Lib.hid hS
    replace hT := Lib.hid hT
    clear S T
    go_enter Tryd.func8, Tryd.ntmps8
    go_wp2_with fail
    refine (P1.out).mono ?_; rintro e w1 ⟨A, n, c, A', n', c', err, rfl, hI, hW, hb1⟩
    replace hI := Lib.hid hI
    replace hW := Lib.hid hW
    replace hb1 := Lib.hid hb1
    go_wp2_with fail
    have hbx1 : Below w1.heap.size w1 (w1.alloc (.cells #[.slice A n c, .slice A' n' c'] 44)) := (Below.refl _ _).alloc (Nat.le_refl _) _
    have hBx := Blk.new w1 44 #[.slice A n c, .slice A' n' c']
    refine (P2.out _).mono ?_; rintro e w2 ⟨A2, n2, c2', A2', n2', c2'', rfl, hI2, hb2⟩
    have hBx2 := hBx.below hb2 hBx.lt
    have hb12 : Below w1.heap.size w1 w2 := Below.next_ hbx1 hb2
    have hI1 := hI.out.is.below hb12
    have hW1 := hW.out.under hb12
    have hb02 : Below w.heap.size w w2 := Below.next_ hb1.out hb12
    have z1 : w.heap.size ≤ w1.heap.size := hb1.out.size
    have k0 := hBx2.cell 0
    have k1 := hBx2.cell 1
    have hlt2 := hBx2.lt
    replace hBx2 := Lib.hid hBx2
    replace hI1 := Lib.hid hI1
    replace hI2 := Lib.hid hI2
    replace hW1 := Lib.hid hW1
    replace hb02 := Lib.hid hb02
    clear hBx hbx1 hb2 hb12 hI hW hb1
    have hSm := sameO_any (.agg #[.slice A n c, .slice A' n' c']) (.agg #[.slice A2 n2 c2', .slice A2' n2' c2'']) a1 a1 ((w2.alloc (.cells #[.slice A2 n2 c2', .slice A2' n2' c2''] 44)).alloc (.cells #[.int .i64 c1, .int .i64 at1, .int .i64 pt1] 60)) (hI1.out.below (((Below.refl _ _).alloc (Nat.le_refl _) _).alloc (by simp) _)) (hI2.out.is.below (((Below.refl _ _).alloc (Nat.le_refl _) _).alloc (by simp) _)) L1.out.1 L1.out.2 L1.out.1 L1.out.2
    rw [oSame_self] at hSm
    have hx2 : Below w2.heap.size w2 ((w2.alloc (.cells #[.slice A2 n2 c2', .slice A2' n2' c2''] 44)).alloc (.cells #[.int .i64 c1, .int .i64 at1, .int .i64 pt1] 60)) := (((Below.refl _ _).alloc (Nat.le_refl _) _).alloc (by simp) _)
    have hBp := (Blk.new w2 44 #[.slice A2 n2 c2', .slice A2' n2' c2'']).below (((Below.refl _ _).alloc (Nat.le_refl _) (.cells #[.int .i64 c1, .int .i64 at1, .int .i64 pt1] 60))) (by simp)
    have hBw := Blk.new (w2.alloc (.cells #[.slice A2 n2 c2', .slice A2' n2' c2''] 44)) 60 #[.int .i64 c1, .int .i64 at1, .int .i64 pt1]
    have hBo := hBx2.out.below hx2 hlt2
    have hsz : (w2.alloc (.cells #[.slice A2 n2 c2', .slice A2' n2' c2''] 44)).heap.size = w2.heap.size + 1 := by simp
    rw [hsz] at hBw
    replace hSm := Lib.hid hSm
    replace hx2 := Lib.hid hx2
    replace hBp := Lib.hid hBp
    replace hBw := Lib.hid hBw
    replace hBo := Lib.hid hBo
    clear hsz
    go_wp2_with fail
    refine (hSm.out).mono ?_; rintro e w3 ⟨rfl, hb3⟩
    have hBp3 := hBp.out.below hb3 hBp.out.lt
    have hBw3 := hBw.out.below hb3 hBw.out.lt
    have hBo3 := hBo.out.below hb3 hBo.out.lt
    have hx3 : Below w2.heap.size w2 w3 := Below.next_ hx2.out hb3
    have hW3 := hW1.out.under hx3
    have hb03 : Below w.heap.size w w3 := Below.next_ hb02.out hx3
    clear k0 k1
    have m0 := hBw3.cell 0
    have m1 := hBw3.cell 1
    have m2 := hBw3.cell 2
    replace hBp3 := Lib.hid hBp3
    replace hBw3 := Lib.hid hBw3
    replace hBo3 := Lib.hid hBo3
    replace hb03 := Lib.hid hb03
    clear hb3 hx3
    have hWr := wrong09_any (hS.out _ hb03.out) (hT.out _ hb03.out) err c1 at1 pt1 hW3
    replace hWr := Lib.hid hWr
    clear hW3
    go_wp2_with fail
    refine (hWr.out).mono ?_; rintro e w4 ⟨rfl, hb4⟩
    have hBp4 := hBp3.out.below hb4 hBp3.out.lt
    have hBw4 := hBw3.out.below hb4 hBw3.out.lt
    have hBo4 := hBo3.out.below hb4 hBo3.out.lt
    have hb04 : Below w.heap.size w w4 := Below.next_ hb03.out hb4
    clear m0 m1 m2 hb4
    replace hBp4 := Lib.hid hBp4
    replace hBw4 := Lib.hid hBw4
    replace hBo4 := Lib.hid hBo4
    replace hb04 := Lib.hid hb04
    go_wp2_with fail
    refine (Q1.out _ hb04.out).mono ?_; rintro e w5 ⟨A3, n3, c3, A3', n3', c3', err2, rfl, hI5, hW5, hb5⟩
    have hBp5 := hBp4.out.below hb5 hBp4.out.lt
    have hBw5 := hBw4.out.below hb5 hBw4.out.lt
    have hBo5 := hBo4.out.below hb5 hBo4.out.lt
    have hb05 : Below w.heap.size w w5 := Below.next_ hb04.out hb5
    have f0 := hBo5.frozen 0
    have f1 := hBo5.frozen 1
    have h0 := hBo5.cell 0
    have h1 := hBo5.cell 1
    replace hBp5 := Lib.hid hBp5
    replace hBw5 := Lib.hid hBw5
    replace hBo5 := Lib.hid hBo5
    replace hb05 := Lib.hid hb05
    replace hI5 := Lib.hid hI5
    replace hW5 := Lib.hid hW5
    have z5' := hb5.size
    clear hb5
    go_wp2_with fail
    clear f0 f1 h0 h1
    have z4 := hBw4.out.lt
    have z5 : w4.heap.size ≤ w5.heap.size := z5'
    have y1 : Below w.heap.size w ((w5.setCell ⟨w1.heap.size, 0, none⟩ (.slice A3 n3 c3)).setCell ⟨w1.heap.size, 1, none⟩ (.slice A3' n3' c3')) := (hb05.out.setCell z1 _).setCell z1 _
    have y2 := (hI5.out.low (p := ⟨w1.heap.size, 0, none⟩) (show w1.heap.size < w4.heap.size by omega) (.slice A3 n3 c3)).low (p := ⟨w1.heap.size, 1, none⟩) (show w1.heap.size < w4.heap.size by omega) (.slice A3' n3' c3')
    have y3 := WrongIs.far (Blk.set_ hBo5.out 0 (.slice A3 n3 c3)) (by decide) 1 (.slice A3' n3' c3') (WrongIs.far hBo5.out (by decide) 0 (.slice A3 n3 c3) hW5.out)
    have y4 := Blk.eq_cs (Blk.set_ (Blk.set_ hBo5.out 0 (.slice A3 n3 c3)) 1 (.slice A3' n3' c3')) (cs' := #[.slice A3 n3 c3, .slice A3' n3' c3']) rfl
    have y5 := ((hBp5.out.far (p := ⟨w1.heap.size, 0, none⟩) (show w2.heap.size ≠ w1.heap.size by omega) (.slice A3 n3 c3)).far (p := ⟨w1.heap.size, 1, none⟩) (show w2.heap.size ≠ w1.heap.size by omega) (.slice A3' n3' c3'))
    have y6 := ((hBw5.out.far (p := ⟨w1.heap.size, 0, none⟩) (show w2.heap.size + 1 ≠ w1.heap.size by omega) (.slice A3 n3 c3)).far (p := ⟨w1.heap.size, 1, none⟩) (show w2.heap.size + 1 ≠ w1.heap.size by omega) (.slice A3' n3' c3'))
    have y7 : ((w5.setCell ⟨w1.heap.size, 0, none⟩ (.slice A3 n3 c3)).setCell ⟨w1.heap.size, 1, none⟩ (.slice A3' n3' c3')).heap.size = w5.heap.size := by simp
    have hQ2 := Q2.out ((w5.setCell ⟨w1.heap.size, 0, none⟩ (.slice A3 n3 c3)).setCell ⟨w1.heap.size, 1, none⟩ (.slice A3' n3' c3'))
    generalize ((w5.setCell ⟨w1.heap.size, 0, none⟩ (.slice A3 n3 c3)).setCell ⟨w1.heap.size, 1, none⟩ (.slice A3' n3' c3')) = W5 at *
    refine hQ2.mono ?_; rintro e w6 ⟨A4, n4, c4, A4', n4', c4', rfl, hI6, hb6⟩
    have x1 := Below.next_ y1 hb6
    have x2 := y2.below hb6
    have x3 := y3.under hb6
    have x4 := y4.below hb6 y4.lt
    have x5 := y5.below hb6 y5.lt
    have x6 := y6.below hb6 y6.lt
    have g0 := x4.cell 0
    have g1 := x4.cell 1
    have p0 := x5.cell 0
    have p1 := x5.cell 1
    have q0 := x5.frozen 0
    have q1 := x5.frozen 1
    have r0 := x6.cell 0
    have r1 := x6.cell 1
    have r2 := x6.cell 2
    have t0 := x6.frozen 0
    have t1 := x6.frozen 1
    have t2 := x6.frozen 2
    have z6 := hb6.size
    have hlo : w2.heap.size + 1 < W5.heap.size := by omega
    replace x1 := Lib.hid x1
    replace x2 := Lib.hid x2
    replace x3 := Lib.hid x3
    replace x4 := Lib.hid x4
    replace x5 := Lib.hid x5
    replace x6 := Lib.hid x6
    replace hI6 := Lib.hid hI6
    clear y1 y2 y3 y4 y5 y6 hQ2 hb6
    go_wp2_with fail
    have o3 : OpU (((((w6.setCell ⟨w2.heap.size, 0, none⟩ (.slice A4 n4 c4)).setCell ⟨w2.heap.size, 1, none⟩ (.slice A4' n4' c4')).setCell ⟨w2.heap.size + 1, 0, none⟩ (.int .i64 c2)).setCell ⟨w2.heap.size + 1, 1, none⟩ (.int .i64 at2)).setCell ⟨w2.heap.size + 1, 2, none⟩ (.int .i64 pt2)) w4.heap.size (.agg #[.slice A3 n3 c3, .slice A3' n3' c3']) a2 := (((((x2.out.low (p := ⟨w2.heap.size, 0, none⟩) (show w2.heap.size < w4.heap.size by omega) (.slice A4 n4 c4)).low (p := ⟨w2.heap.size, 1, none⟩) (show w2.heap.size < w4.heap.size by omega) (.slice A4' n4' c4')).low (p := ⟨w2.heap.size + 1, 0, none⟩) (show w2.heap.size + 1 < w4.heap.size by omega) (.int .i64 c2)).low (p := ⟨w2.heap.size + 1, 1, none⟩) (show w2.heap.size + 1 < w4.heap.size by omega) (.int .i64 at2)).low (p := ⟨w2.heap.size + 1, 2, none⟩) (show w2.heap.size + 1 < w4.heap.size by omega) (.int .i64 pt2))
    have o4 : OpU (((((w6.setCell ⟨w2.heap.size, 0, none⟩ (.slice A4 n4 c4)).setCell ⟨w2.heap.size, 1, none⟩ (.slice A4' n4' c4')).setCell ⟨w2.heap.size + 1, 0, none⟩ (.int .i64 c2)).setCell ⟨w2.heap.size + 1, 1, none⟩ (.int .i64 at2)).setCell ⟨w2.heap.size + 1, 2, none⟩ (.int .i64 pt2)) W5.heap.size (.agg #[.slice A4 n4 c4, .slice A4' n4' c4']) a2 := (((((hI6.out.low (p := ⟨w2.heap.size, 0, none⟩) (show w2.heap.size < W5.heap.size by omega) (.slice A4 n4 c4)).low (p := ⟨w2.heap.size, 1, none⟩) (show w2.heap.size < W5.heap.size by omega) (.slice A4' n4' c4')).low (p := ⟨w2.heap.size + 1, 0, none⟩) (show w2.heap.size + 1 < W5.heap.size by omega) (.int .i64 c2)).low (p := ⟨w2.heap.size + 1, 1, none⟩) (show w2.heap.size + 1 < W5.heap.size by omega) (.int .i64 at2)).low (p := ⟨w2.heap.size + 1, 2, none⟩) (show w2.heap.size + 1 < W5.heap.size by omega) (.int .i64 pt2))
    have zz : w.heap.size ≤ w2.heap.size := by omega
    have zz1 : w.heap.size ≤ w2.heap.size + 1 := by omega
    have y1 : Below w.heap.size w (((((w6.setCell ⟨w2.heap.size, 0, none⟩ (.slice A4 n4 c4)).setCell ⟨w2.heap.size, 1, none⟩ (.slice A4' n4' c4')).setCell ⟨w2.heap.size + 1, 0, none⟩ (.int .i64 c2)).setCell ⟨w2.heap.size + 1, 1, none⟩ (.int .i64 at2)).setCell ⟨w2.heap.size + 1, 2, none⟩ (.int .i64 pt2)) := ((((x1.out.setCell zz _).setCell zz _).setCell zz1 _).setCell zz1 _).setCell zz1 _
    have u1 := Blk.set_ x5.out 0 (.slice A4 n4 c4)
    have v1 := x6.out.far (p := ⟨w2.heap.size, 0, none⟩) (show w2.heap.size + 1 ≠ w2.heap.size by omega) (.slice A4 n4 c4)
    have v2 := v1.far (p := ⟨w2.heap.size, 1, none⟩) (show w2.heap.size + 1 ≠ w2.heap.size by omega) (.slice A4' n4' c4')
    have v3 := Blk.set_ v2 0 (.int .i64 c2)
    have v4 := Blk.set_ v3 1 (.int .i64 at2)
    have v5 := Blk.eq_cs (Blk.set_ v4 2 (.int .i64 pt2)) (cs' := #[.int .i64 c2, .int .i64 at2, .int .i64 pt2]) rfl
    have y3 : WrongIs (((((w6.setCell ⟨w2.heap.size, 0, none⟩ (.slice A4 n4 c4)).setCell ⟨w2.heap.size, 1, none⟩ (.slice A4' n4' c4')).setCell ⟨w2.heap.size + 1, 0, none⟩ (.int .i64 c2)).setCell ⟨w2.heap.size + 1, 1, none⟩ (.int .i64 at2)).setCell ⟨w2.heap.size + 1, 2, none⟩ (.int .i64 pt2)) sv err2 c2 at2 pt2 := WrongIs.far v4 (by decide) 2 _ (WrongIs.far v3 (by decide) 1 _ (WrongIs.far v2 (by decide) 0 _ (WrongIs.far u1 (by decide) 1 _ (WrongIs.far x5.out (by decide) 0 _ x3.out))))
    have hSm2 := sameO_any _ _ a2 a2 _ o3.is o4.is L2.out.1 L2.out.2 L2.out.1 L2.out.2
    rw [oSame_self] at hSm2
    clear o3 o4 u1 v1 v2 v3 v4 g0 g1 p0 p1 q0 q1 r0 r1 r2 t0 t1 t2
    generalize (((((w6.setCell ⟨w2.heap.size, 0, none⟩ (.slice A4 n4 c4)).setCell ⟨w2.heap.size, 1, none⟩ (.slice A4' n4' c4')).setCell ⟨w2.heap.size + 1, 0, none⟩ (.int .i64 c2)).setCell ⟨w2.heap.size + 1, 1, none⟩ (.int .i64 at2)).setCell ⟨w2.heap.size + 1, 2, none⟩ (.int .i64 pt2)) = W6 at *
    refine hSm2.mono ?_; rintro e w7 ⟨rfl, hb7⟩
    have y4 := y3.under hb7
    have y5 := v5.below hb7 v5.lt
    have y6 := Below.next_ y1 hb7
    have r0 := y5.cell 0
    have r1 := y5.cell 1
    have r2 := y5.cell 2
    have hWr2 := wrong09_any (hS.out _ y6) (hT.out _ y6) err2 c2 at2 pt2 y4
    replace hWr2 := Lib.hid hWr2
    replace y6 := Lib.hid y6
    clear y1 y3 y4 y5 v5 hSm2 hb7
    go_wp2_with fail
    refine (hWr2.out).mono ?_; rintro e w8 ⟨rfl, hb8⟩
    have hb08 := Below.next_ y6.out hb8
    replace hb08 := Lib.hid hb08
    clear hb8 r0 r1 r2
    go_wp2_with fail
    refine (hA.out _ hb08.out).mono ?_; rintro e w9 ⟨rfl, hb9⟩
    go_wp2_with fail
    go_ret
    exact ⟨rfl, Below.next_ hb08.out hb9⟩
end Go.Proofs.YtpmnppjiipbonaaDoor
