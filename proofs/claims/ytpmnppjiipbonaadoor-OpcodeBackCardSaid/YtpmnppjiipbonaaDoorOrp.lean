/-
  The document's Parse. No condition.
-/
import Derived.Test.YtpmnppjiipbonaaDoorOrt
namespace Go.Proofs.YtpmnppjiipbonaaDoor
set_option linter.unusedVariables false
open Go.RowKit Go.Extern.Stop Go.Stop Go.Extern Go.ChangeShapes

/-- What the document's Parse answers. -/
def RefPOut (B : Nat) (w' : World) (r : Except (Int × Int × Int) OOp) (v wv : Value) : Prop := match r with
  | .ok o => OwnOp w' B v o ∧ wv = .agg #[.int .i64 0, .int .i64 0, .int .i64 (-1)]
  | .error e => v = zeroOp ∧ wv = .agg #[.int .i64 e.1, .int .i64 e.2.1, .int .i64 e.2.2]
theorem OwnOp.drew {w : World} {B : Nat} {v : Value} {o : OOp} (h : OwnOp w B v o) : OwnOp w.drew B v o := h.keep fun _ _ _ _ _ => rfl
theorem OwnOp.farT {w : World} {B b : Nat} {t : TypeId} {v : Value} {o : OOp} {cs : Array Value} (h : OwnOp w B v o) (hb : Blk w b t cs) (h1 : 90 ≠ t) (h2 : 92 ≠ t) (i : Nat) (u : Value) : OwnOp (w.setCell ⟨b, i, none⟩ u) B v o := h.keep fun g t' _ ht hB => Below.heap_setCell w ⟨b, i, none⟩ u g fun e => by
  simp only at e
  subst e
  rcases ht with rfl | rfl
  · exact Blk.ne_ hB hb h1 rfl
  · exact Blk.ne_ hB hb h2 rfl
theorem own_op5 {w : World} {B B' b b' : Nat} {v : Value} {o : OOp} {cs cs' : Array Value} (h : OwnOp w B v o) (hb : Blk w b 44 cs) (hb' : Blk w b' 60 cs') (u0 u1 u2 u3 u4 : Value) (hB : B' ≤ B) :
    OwnOp (((((w.setCell ⟨b, 0, none⟩ u0).setCell ⟨b, 1, none⟩ u1).setCell ⟨b', 0, none⟩ u2).setCell ⟨b', 1, none⟩ u3).setCell ⟨b', 2, none⟩ u4) B' v o := by
  have hne : b' ≠ b := Blk.ne_ hb' hb (by decide)
  have k0 := OwnOp.far h hb 0 u0
  have k1 := OwnOp.far k0 (Blk.set_ hb 0 u0) 1 u1
  have w2 := Blk.far (Blk.far hb' (show b' ≠ b from hne) (p := ⟨b, 0, none⟩) u0) (show b' ≠ b from hne) (p := ⟨b, 1, none⟩) u1
  have k2 := OwnOp.farT k1 w2 (by decide) (by decide) 0 u2
  have k3 := OwnOp.farT k2 (Blk.set_ w2 0 u2) (by decide) (by decide) 1 u3
  exact (OwnOp.farT k3 (Blk.set_ (Blk.set_ w2 0 u2) 1 u3) (by decide) (by decide) 2 u4).mono hB
set_option maxRecDepth 100000 in
set_option maxHeartbeats 8000000 in
theorem refParseO_any {w : World} (s : ByteArray) (hs : s.size ≤ 1000000) :
    Calls Tryd.prog 29 #[.string s] w fun e w' => ∃ v wv, e = .returned (.tuple #[v, wv]) ∧ RefPOut w.heap.size w' (pParse s) v wv ∧ Below w.heap.size w w' := by
  have hB0 : Below w.heap.size w ((w.alloc (.cells #[.slice none 0 0, .slice none 0 0] 44)).alloc (.cells #[.int .i64 0, .int .i64 0, .int .i64 0] 60)) := ((Below.refl _ _).alloc (Nat.le_refl _) _).alloc (by simp) _
  have hRes0 : Blk ((w.alloc (.cells #[.slice none 0 0, .slice none 0 0] 44)).alloc (.cells #[.int .i64 0, .int .i64 0, .int .i64 0] 60)) w.heap.size 44 #[.slice none 0 0, .slice none 0 0] := Blk.alloc (Blk.new w 44 #[.slice none 0 0, .slice none 0 0]) _
  have hWr0 : Blk ((w.alloc (.cells #[.slice none 0 0, .slice none 0 0] 44)).alloc (.cells #[.int .i64 0, .int .i64 0, .int .i64 0] 60)) (w.heap.size + 1) 60 #[.int .i64 0, .int .i64 0, .int .i64 0] := by simpa using Blk.new (w.alloc (.cells #[.slice none 0 0, .slice none 0 0] 44)) 60 #[.int .i64 0, .int .i64 0, .int .i64 0]
  have hsz0 : ((w.alloc (.cells #[.slice none 0 0, .slice none 0 0] 44)).alloc (.cells #[.int .i64 0, .int .i64 0, .int .i64 0] 60)).heap.size = w.heap.size + 1 + 1 := by simp
  have T1 := Lib.hid (refTakeO_any (w := ((w.alloc (.cells #[.slice none 0 0, .slice none 0 0] 44)).alloc (.cells #[.int .i64 0, .int .i64 0, .int .i64 0] 60))) s 0 hs)
  replace hB0 := Lib.hid hB0
  replace hRes0 := Lib.hid hRes0
  replace hWr0 := Lib.hid hWr0
  replace hsz0 := Lib.hid hsz0
  generalize hpt : pParse s = R
  unfold pParse at hpt
  cases hp : pTake s 0 with
  | error er =>
    rw [hp] at T1 hpt
    simp only at hpt
    have hcz := (cOk_idx (pTake_cOk hp).1).2.2.1
    have n1 : (er.1 == 0) = false := beq_eq_false_iff_ne.2 hcz
    have m1 : (er.1 != 0) = true := by rw [bne, n1]; rfl
    replace hpt := Lib.hid hpt
    replace hp := Lib.hid hp
    clear hcz
    go_enter Tryd.func29, Tryd.ntmps29
    go_wp2_with fail
    refine (T1.out).mono ?_; rintro e w1 ⟨v, nx, wv, rfl, ⟨rfl, rfl, rfl⟩, hb1⟩
    unfold zeroOp
    have hB1 : Below w.heap.size w w1 := hB0.out.trans (hb1.mono (by rw [hsz0.out]; omega))
    have hResX := Blk.below hRes0.out hb1 (by rw [hsz0.out]; omega)
    have hWrX := Blk.below hWr0.out hb1 (by rw [hsz0.out]; omega)
    have r0 := hResX.cell 0
    have r1 := hResX.cell 1
    have rf0 := hResX.frozen 0
    have rf1 := hResX.frozen 1
    have v0 := hWrX.cell 0
    have v1 := hWrX.cell 1
    have v2 := hWrX.cell 2
    have vf0 := hWrX.frozen 0
    have vf1 := hWrX.frozen 1
    have vf2 := hWrX.frozen 2
    have hrlX := hResX.lt
    have hwlX := hWrX.lt
    have hrl1 : w.heap.size < w1.heap.size + 1 := by omega
    have hrl2 : w.heap.size < w1.heap.size + 1 + 1 := by omega
    have hwl1 : w.heap.size + 1 < w1.heap.size + 1 := by omega
    have hwl2 : w.heap.size + 1 < w1.heap.size + 1 + 1 := by omega
    replace hResX := Lib.hid hResX
    replace hWrX := Lib.hid hWrX
    replace hB1 := Lib.hid hB1
    go_wp2_with fail
    go_region
    all_goals
      go_wp2_with fail
      refine code_world (fun W => Blk W w.heap.size 44 #[.slice none 0 0, .slice none 0 0] ∧ Blk W (w.heap.size + 1) 60 #[.int .i64 (er.1), .int .i64 (er.2.1), .int .i64 (er.2.2)] ∧ True ∧ Below w.heap.size w W) ?_ fun W hW => ?_
      · exact ⟨Blk.drew (Blk.alloc (Blk.alloc (Blk.far (Blk.far (Blk.far (Blk.eq_cs (Blk.set_ (Blk.set_ hResX.out 0 _) 1 _) rfl) (show w.heap.size ≠ w.heap.size + 1 by omega) _) (show w.heap.size ≠ w.heap.size + 1 by omega) _) (show w.heap.size ≠ w.heap.size + 1 by omega) _) _) _), Blk.drew (Blk.alloc (Blk.alloc (Blk.eq_cs (Blk.set_ (Blk.set_ (Blk.set_ (Blk.far (Blk.far hWrX.out (show w.heap.size + 1 ≠ w.heap.size by omega) _) (show w.heap.size + 1 ≠ w.heap.size by omega) _) 0 _) 1 _) 2 _) rfl) _) _), trivial, (((((((hB1.out.setCell (Nat.le_refl _) _).setCell (Nat.le_refl _) _).setCell (Nat.le_succ _) _).setCell (Nat.le_succ _) _).setCell (Nat.le_succ _) _).alloc (by simp only [size_setCell]; exact hB1.out.size) _).alloc (by have := hB1.out.size; simp only [World.size_alloc, size_setCell]; omega) _).drew⟩
      obtain ⟨k1, k2, k4, k3⟩ := hW
      have z0 := k1.cell 0
      have z1 := k1.cell 1
      have z2 := k2.cell 0
      have z3 := k2.cell 1
      have z4 := k2.cell 2
      replace k4 := Lib.hid k4
      exact bodyPost_ret (v := .tuple #[.agg #[.slice none 0 0, .slice none 0 0], .agg #[.int .i64 (er.1), .int .i64 (er.2.1), .int .i64 (er.2.2)]]) (by simp [results, Tryd.results29, go_sem, z0, z1, z2, z3, z4]) rfl ⟨_, _, rfl, by rw [← hpt.out]; exact ⟨rfl, rfl⟩, k3⟩
  | ok x =>
    rw [hp] at T1 hpt
    simp only at hpt
    replace hp := Lib.hid hp
    by_cases hlt : x.2 < s.size
    · rw [if_pos hlt] at hpt
      replace hpt := Lib.hid hpt
      go_enter Tryd.func29, Tryd.ntmps29
      go_wp2_with fail
      refine (T1.out).mono ?_; rintro e w1 ⟨v, nx, wv, rfl, ⟨hO1, rfl, rfl⟩, hb1⟩
      obtain ⟨A, c, A', c', rfl, _, _⟩ := hO1
      have hB1 : Below w.heap.size w w1 := hB0.out.trans (hb1.mono (by rw [hsz0.out]; omega))
      have hResX := Blk.below hRes0.out hb1 (by rw [hsz0.out]; omega)
      have hWrX := Blk.below hWr0.out hb1 (by rw [hsz0.out]; omega)
      have r0 := hResX.cell 0
      have r1 := hResX.cell 1
      have rf0 := hResX.frozen 0
      have rf1 := hResX.frozen 1
      have v0 := hWrX.cell 0
      have v1 := hWrX.cell 1
      have v2 := hWrX.cell 2
      have vf0 := hWrX.frozen 0
      have vf1 := hWrX.frozen 1
      have vf2 := hWrX.frozen 2
      have hrlX := hResX.lt
      have hwlX := hWrX.lt
      have hrl1 : w.heap.size < w1.heap.size + 1 := by omega
      have hrl2 : w.heap.size < w1.heap.size + 1 + 1 := by omega
      have hwl1 : w.heap.size + 1 < w1.heap.size + 1 := by omega
      have hwl2 : w.heap.size + 1 < w1.heap.size + 1 + 1 := by omega
      replace hResX := Lib.hid hResX
      replace hWrX := Lib.hid hWrX
      replace hB1 := Lib.hid hB1
      go_wp2_with fail
      refine code_world (fun W => Blk W w.heap.size 44 #[.slice none 0 0, .slice none 0 0] ∧ Blk W (w.heap.size + 1) 60 #[.int .i64 (3), .int .i64 (x.2), .int .i64 (-1)] ∧ True ∧ Below w.heap.size w W) ?_ fun W hW => ?_
      · exact ⟨(Blk.alloc (Blk.alloc (Blk.far (Blk.far (Blk.far (Blk.eq_cs (Blk.set_ (Blk.set_ hResX.out 0 _) 1 _) rfl) (show w.heap.size ≠ w.heap.size + 1 by omega) _) (show w.heap.size ≠ w.heap.size + 1 by omega) _) (show w.heap.size ≠ w.heap.size + 1 by omega) _) _) _), (Blk.alloc (Blk.alloc (Blk.eq_cs (Blk.set_ (Blk.set_ (Blk.set_ (Blk.far (Blk.far hWrX.out (show w.heap.size + 1 ≠ w.heap.size by omega) _) (show w.heap.size + 1 ≠ w.heap.size by omega) _) 0 _) 1 _) 2 _) rfl) _) _), trivial, ((((((hB1.out.setCell (Nat.le_refl _) _).setCell (Nat.le_refl _) _).setCell (Nat.le_succ _) _).setCell (Nat.le_succ _) _).setCell (Nat.le_succ _) _).alloc (by simp only [size_setCell]; exact hB1.out.size) _).alloc (by have := hB1.out.size; simp only [World.size_alloc, size_setCell]; omega) _⟩
      obtain ⟨k1, k2, k4, k3⟩ := hW
      have z0 := k1.cell 0
      have z1 := k1.cell 1
      have z2 := k2.cell 0
      have z3 := k2.cell 1
      have z4 := k2.cell 2
      replace k4 := Lib.hid k4
      exact bodyPost_ret (v := .tuple #[.agg #[.slice none 0 0, .slice none 0 0], .agg #[.int .i64 (3), .int .i64 (x.2), .int .i64 (-1)]]) (by simp [results, Tryd.results29, go_sem, z0, z1, z2, z3, z4]) rfl ⟨_, _, rfl, by rw [← hpt.out]; exact ⟨rfl, rfl⟩, k3⟩
    · rw [if_neg hlt] at hpt
      have hltd : decide (x.2 < (s.size : Int)) = false := decide_eq_false hlt
      replace hpt := Lib.hid hpt
      go_enter Tryd.func29, Tryd.ntmps29
      go_wp2_with fail
      refine (T1.out).mono ?_; rintro e w1 ⟨v, nx, wv, rfl, ⟨hO1, rfl, rfl⟩, hb1⟩
      have hO1' := Lib.hid hO1
      obtain ⟨A, c, A', c', rfl, _, _⟩ := hO1
      have hB1 : Below w.heap.size w w1 := hB0.out.trans (hb1.mono (by rw [hsz0.out]; omega))
      have hResX := Blk.below hRes0.out hb1 (by rw [hsz0.out]; omega)
      have hWrX := Blk.below hWr0.out hb1 (by rw [hsz0.out]; omega)
      have r0 := hResX.cell 0
      have r1 := hResX.cell 1
      have rf0 := hResX.frozen 0
      have rf1 := hResX.frozen 1
      have v0 := hWrX.cell 0
      have v1 := hWrX.cell 1
      have v2 := hWrX.cell 2
      have vf0 := hWrX.frozen 0
      have vf1 := hWrX.frozen 1
      have vf2 := hWrX.frozen 2
      have hrlX := hResX.lt
      have hwlX := hWrX.lt
      have hrl1 : w.heap.size < w1.heap.size + 1 := by omega
      have hrl2 : w.heap.size < w1.heap.size + 1 + 1 := by omega
      have hwl1 : w.heap.size + 1 < w1.heap.size + 1 := by omega
      have hwl2 : w.heap.size + 1 < w1.heap.size + 1 + 1 := by omega
      replace hResX := Lib.hid hResX
      replace hWrX := Lib.hid hWrX
      replace hB1 := Lib.hid hB1
      go_wp2_with fail
      go_region
      all_goals
        go_wp2_with fail
        refine code_world (fun W => Blk W w.heap.size 44 #[.slice A x.1.guards.length c, .slice A' x.1.steps.length c'] ∧ Blk W (w.heap.size + 1) 60 #[.int .i64 (0), .int .i64 (0), .int .i64 (-1)] ∧ OwnOp W w.heap.size (.agg #[.slice A x.1.guards.length c, .slice A' x.1.steps.length c']) x.1 ∧ Below w.heap.size w W) ?_ fun W hW => ?_
        · exact ⟨Blk.drew (Blk.alloc (Blk.alloc (Blk.far (Blk.far (Blk.far (Blk.eq_cs (Blk.set_ (Blk.set_ hResX.out 0 _) 1 _) rfl) (show w.heap.size ≠ w.heap.size + 1 by omega) _) (show w.heap.size ≠ w.heap.size + 1 by omega) _) (show w.heap.size ≠ w.heap.size + 1 by omega) _) _) _), Blk.drew (Blk.alloc (Blk.alloc (Blk.eq_cs (Blk.set_ (Blk.set_ (Blk.set_ (Blk.far (Blk.far hWrX.out (show w.heap.size + 1 ≠ w.heap.size by omega) _) (show w.heap.size + 1 ≠ w.heap.size by omega) _) 0 _) 1 _) 2 _) rfl) _) _), OwnOp.drew (OwnOp.below (OwnOp.below (own_op5 hO1'.out hResX.out hWrX.out _ _ _ _ _ (by rw [hsz0.out]; omega)) ((Below.refl _ _).alloc (Nat.le_refl _) _)) ((Below.refl _ _).alloc (Nat.le_refl _) _)), (((((((hB1.out.setCell (Nat.le_refl _) _).setCell (Nat.le_refl _) _).setCell (Nat.le_succ _) _).setCell (Nat.le_succ _) _).setCell (Nat.le_succ _) _).alloc (by simp only [size_setCell]; exact hB1.out.size) _).alloc (by have := hB1.out.size; simp only [World.size_alloc, size_setCell]; omega) _).drew⟩
        obtain ⟨k1, k2, k4, k3⟩ := hW
        have z0 := k1.cell 0
        have z1 := k1.cell 1
        have z2 := k2.cell 0
        have z3 := k2.cell 1
        have z4 := k2.cell 2
        replace k4 := Lib.hid k4
        exact bodyPost_ret (v := .tuple #[.agg #[.slice A x.1.guards.length c, .slice A' x.1.steps.length c'], .agg #[.int .i64 (0), .int .i64 (0), .int .i64 (-1)]]) (by simp [results, Tryd.results29, go_sem, z0, z1, z2, z3, z4]) rfl ⟨_, _, rfl, by rw [← hpt.out]; exact ⟨k4.out, rfl⟩, k3⟩
end Go.Proofs.YtpmnppjiipbonaaDoor
