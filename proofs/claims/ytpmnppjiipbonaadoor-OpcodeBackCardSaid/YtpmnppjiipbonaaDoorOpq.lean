/-
  opcode.Parse. No condition.
-/
import Derived.Test.YtpmnppjiipbonaaDoorOtk
namespace Go.Proofs.YtpmnppjiipbonaaDoor
set_option linter.unusedVariables false
open Go.RowKit Go.Extern.Stop Go.Stop Go.Extern Go.ChangeShapes

/-- What Parse answers. -/
def ParseOut (B : Nat) (w' : World) (sv : Nat → Addr) (r : Except (Int × Int × Int) OOp) (v err : Value) : Prop := match r with
  | .ok o => OwnOp w' B v o ∧ err = .nilIface
  | .error e => v = zeroOp ∧ ErrIs w' sv err (if e.2.2 < 0 then [e.2.1] else [e.2.2, e.2.1]) (sIdx e.1)
theorem cOk_idx {c : Int} (h : cOk c) : sIdx c ≠ 18 ∧ sCode (sIdx c) = c ∧ c ≠ 0 ∧ sIdx c < 5 := by
  rcases h with rfl | rfl | rfl | rfl | rfl <;> decide
set_option maxRecDepth 100000 in
set_option maxHeartbeats 4000000 in
theorem opParse_any {w : World} {sv : Nat → Addr} (S : Sent w sv) (T : ETy w) (s : ByteArray) (hs : s.size ≤ 1000000) :
    Calls Tryd.prog 23 #[.string s] w fun e w' => ∃ v err, e = .returned (.tuple #[v, err]) ∧ ParseOut w.heap.size w' sv (pParse s) v err ∧ Below w.heap.size w w' := by
  have hB0 : Below w.heap.size w (w.alloc (.cells #[.slice none 0 0, .slice none 0 0] 44)) := (Below.refl _ _).alloc (Nat.le_refl _) _
  have hRes0 := Blk.new w 44 #[.slice none 0 0, .slice none 0 0]
  have hT := Lib.hid (opTake_any (S.below hB0) (T.below hB0) s 0 hs)
  have hS := Lib.hid (fun W (hW : Below w.heap.size w W) => S.below hW)
  replace hB0 := Lib.hid hB0
  replace hRes0 := Lib.hid hRes0
  clear S T
  unfold pParse
  cases hp : pTake s 0 with
  | error er =>
    rw [hp] at hT
    obtain ⟨hok, hpart⟩ := pTake_cOk hp
    obtain ⟨k18, _, _, _⟩ := cOk_idx hok
    simp only
    replace hp := Lib.hid hp
    replace hok := Lib.hid hok
    replace hpart := Lib.hid hpart
    go_enter Tryd.func23, Tryd.ntmps23
    go_wp2_with fail
    refine (hT.out).mono ?_; rintro e w1 ⟨v, nx, err, rfl, ⟨rfl, rfl, hE1⟩, hb1⟩
    have hB1 : Below w.heap.size w w1 := hB0.out.trans (hb1.mono (by simp))
    have hRes1 := Blk.below hRes0.out hb1 (by simp)
    obtain ⟨ty, u, rfl⟩ := hE1.iface
    have hIs := is_any (hS.out _ (hB1.alloc hB1.size (.cells #[.slice none 0 0, .slice none 0 0] 44))) _ _ _ 18 (by decide) (ErrIs.under ((Below.refl _ _).alloc (Nat.le_refl _) _) hE1)
    rw [decide_eq_false k18] at hIs
    have hg : w1.cell? ⟨1, 0, none⟩ = some (.iface 187 (.pointer (some (sv 18)))) := (hS.out _ hB1).var 18 (by decide)
    have hgl := cell_lt hg
    have r0 := hRes1.cell 0
    have r1 := hRes1.cell 1
    have rf0 := hRes1.frozen 0
    have rf1 := hRes1.frozen 1
    have hrl := hRes1.lt
    have hrl' : w.heap.size < w1.heap.size + 1 := by omega
    replace hIs := Lib.hid hIs
    replace hE1 := Lib.hid hE1
    replace hB1 := Lib.hid hB1
    replace hRes1 := Lib.hid hRes1
    replace k18 := Lib.hid k18
    unfold zeroOp
    go_wp2_with fail
    refine (hIs.out).mono ?_; rintro e wx ⟨rfl, rfl⟩
    go_wp2_with fail
    refine code_world (fun W => Blk W w.heap.size 44 #[.slice none 0 0, .slice none 0 0] ∧ ErrIs W sv (.iface ty u) (if er.2.2 < 0 then [er.2.1] else [er.2.2, er.2.1]) (sIdx er.1) ∧ Below w.heap.size w W) ?_ fun W hW => ?_
    · refine ⟨Blk.alloc (Blk.eq_cs (Blk.set_ (Blk.set_ hRes1.out 0 _) 1 _) rfl) _, ErrIs.under ((Below.refl _ _).alloc (Nat.le_refl _) _) (err_setop (Blk.set_ hRes1.out 0 _) 1 (err_setop hRes1.out 0 hE1.out)), ((hB1.out.setCell (Nat.le_refl _) _).setCell (Nat.le_refl _) _).alloc (by simp only [size_setCell]; exact hB1.out.size) _⟩
    obtain ⟨k1, k2, k3⟩ := hW
    have z0 := k1.cell 0
    have z1 := k1.cell 1
    replace k2 := Lib.hid k2
    exact bodyPost_ret (v := .tuple #[.agg #[.slice none 0 0, .slice none 0 0], .iface ty u]) (by simp [results, Tryd.results23, go_sem, z0, z1]) rfl ⟨_, _, rfl, ⟨rfl, k2.out⟩, k3⟩
  | ok x =>
    rw [hp] at hT
    simp only
    replace hp := Lib.hid hp
    by_cases hlt : x.2 < s.size
    · rw [if_pos hlt]
      have hN := Lib.hid (fun W (hW : Below w.heap.size w W) => new_any (hS.out W hW) 3)
      have hA := Lib.hid (fun (W : World) => at_any (w := W) x.2 _ [] (sIdx 3) (ErrIs.leaf (sv := sv) _ (sIdx_lt 3)))
      go_enter Tryd.func23, Tryd.ntmps23
      go_wp2_with fail
      refine (hT.out).mono ?_; rintro e w1 ⟨v, nx, err, rfl, ⟨hO1, rfl, rfl⟩, hb1⟩
      obtain ⟨A, c, A', c', rfl, _, _⟩ := hO1
      have hB1 : Below w.heap.size w w1 := hB0.out.trans (hb1.mono (by simp))
      have hRes1 := Blk.below hRes0.out hb1 (by simp)
      have hN1 := Lib.hid (hN.out _ (hB1.alloc hB1.size (.cells #[.slice A x.1.guards.length c, .slice A' x.1.steps.length c'] 44)))
      have hB1' := hB1.alloc hB1.size (.cells #[.slice A x.1.guards.length c, .slice A' x.1.steps.length c'] 44)
      have hRes1' := Blk.alloc hRes1 (.cells #[.slice A x.1.guards.length c, .slice A' x.1.steps.length c'] 44)
      replace hB1 := Lib.hid hB1
      replace hRes1 := Lib.hid hRes1
      replace hB1' := Lib.hid hB1'
      replace hRes1' := Lib.hid hRes1'
      go_wp2_with fail
      refine (hN1.out).mono ?_; rintro e wx ⟨rfl, rfl⟩
      go_wp2_with fail
      refine (hA.out _).mono ?_; rintro e w2 ⟨v, rfl, hE2, hb2⟩
      obtain ⟨ty, u, rfl⟩ := hE2.iface
      have hB2 := nx hB1'.out (Nat.le_refl _) hb2
      have hRes2 := hRes1'.out.below hb2 hRes1'.out.lt
      have r0 := hRes2.cell 0
      have r1 := hRes2.cell 1
      have rf0 := hRes2.frozen 0
      have rf1 := hRes2.frozen 1
      have hrl := hRes2.lt
      replace hE2 := Lib.hid hE2
      replace hB2 := Lib.hid hB2
      replace hRes2 := Lib.hid hRes2
      go_wp2_with fail
      refine code_world (fun W => Blk W w.heap.size 44 #[.slice none 0 0, .slice none 0 0] ∧ ErrIs W sv (.iface ty u) [x.2] (sIdx 3) ∧ Below w.heap.size w W) ?_ fun W hW => ?_
      · refine ⟨Blk.eq_cs (Blk.set_ (Blk.set_ hRes2.out 0 _) 1 _) rfl, err_setop (Blk.set_ hRes2.out 0 _) 1 (err_setop hRes2.out 0 hE2.out), (hB2.out.setCell (Nat.le_refl _) _).setCell (Nat.le_refl _) _⟩
      obtain ⟨k1, k2, k3⟩ := hW
      have z0 := k1.cell 0
      have z1 := k1.cell 1
      replace k2 := Lib.hid k2
      exact bodyPost_ret (v := .tuple #[.agg #[.slice none 0 0, .slice none 0 0], .iface ty u]) (by simp [results, Tryd.results23, go_sem, z0, z1]) rfl ⟨_, _, rfl, ⟨rfl, by show ErrIs _ _ _ (if (-1 : Int) < 0 then [x.2] else [-1, x.2]) _; rw [if_pos (by decide)]; exact k2.out⟩, k3⟩
    · rw [if_neg hlt]
      have hltd : decide (x.2 < (s.size : Int)) = false := decide_eq_false hlt
      go_enter Tryd.func23, Tryd.ntmps23
      go_wp2_with fail
      refine (hT.out).mono ?_; rintro e w1 ⟨v, nx, err, rfl, ⟨hO1, rfl, rfl⟩, hb1⟩
      have hO1' := Lib.hid hO1
      obtain ⟨A, c, A', c', rfl, _, _⟩ := hO1
      have hB1 : Below w.heap.size w w1 := hB0.out.trans (hb1.mono (by simp))
      have hRes1 := Blk.below hRes0.out hb1 (by simp)
      have r0 := hRes1.cell 0
      have r1 := hRes1.cell 1
      have rf0 := hRes1.frozen 0
      have rf1 := hRes1.frozen 1
      have hrl := hRes1.lt
      have hrl' : w.heap.size < w1.heap.size + 1 := by omega
      replace hB1 := Lib.hid hB1
      replace hRes1 := Lib.hid hRes1
      go_wp2_with fail
      refine code_world (fun W => Blk W w.heap.size 44 #[.slice A x.1.guards.length c, .slice A' x.1.steps.length c'] ∧ OwnOp W (w.alloc (.cells #[.slice none 0 0, .slice none 0 0] 44)).heap.size (.agg #[.slice A x.1.guards.length c, .slice A' x.1.steps.length c']) x.1 ∧ Below w.heap.size w W) ?_ fun W hW => ?_
      · refine ⟨Blk.alloc (Blk.eq_cs (Blk.set_ (Blk.set_ hRes1.out 0 _) 1 _) rfl) _, OwnOp.below (OwnOp.far (OwnOp.far hO1'.out hRes1.out 0 _) (Blk.set_ hRes1.out 0 _) 1 _) ((Below.refl _ _).alloc (Nat.le_refl _) _), ((hB1.out.setCell (Nat.le_refl _) _).setCell (Nat.le_refl _) _).alloc (by simp only [size_setCell]; exact hB1.out.size) _⟩
      obtain ⟨k1, k2, k3⟩ := hW
      have z0 := k1.cell 0
      have z1 := k1.cell 1
      replace k2 := Lib.hid k2
      exact bodyPost_ret (v := .tuple #[.agg #[.slice A x.1.guards.length c, .slice A' x.1.steps.length c'], .nilIface]) (by simp [results, Tryd.results23, go_sem, z0, z1]) rfl ⟨_, _, rfl, ⟨k2.out.mono (by simp), rfl⟩, k3⟩
end Go.Proofs.YtpmnppjiipbonaaDoor
