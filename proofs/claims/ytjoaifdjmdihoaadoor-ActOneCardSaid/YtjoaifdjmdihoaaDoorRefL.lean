/-
  The document's heap (layer 17): the lock, and how many cells a block has. No condition.
-/
import Derived.Test.YtjoaifdjmdihoaaDoorRefK
namespace Go.Proofs.YtjoaifdjmdihoaaDoor
set_option linter.unusedVariables false
open Go.ChangeShapes Go.WideShapes Go.ChangeAt Go.RowKit
open Go.ChangeMaps (setBlock)

section
variable {w : World} {xb : Nat} {S : PHeap} {F : Nat → Prop} (h : RefIn w xb S F)
include h
set_option maxRecDepth 100000 in
set_option maxHeartbeats 2000000 in
theorem rlock_any : Calls Tryd.prog 43 #[.pointer (some ⟨xb, 0, none⟩)] w fun e w' => e = .returned (.bool (!S.locked)) ∧ RTurned F xb S.lock w w' := by
  obtain ⟨A, cap, R, hX, hR, hlen, ht⟩ := h.ex
  have hT : RTurned F xb S.lock w (w.setCell ⟨xb, 1, none⟩ (.bool true)) := h.turn hX hR hlen ht ((Chg.refl (fun k => k = xb) w).setCell (p := ⟨xb, 1, none⟩) (.inl rfl) _) ((hX.set_ 1 _).eq_cs rfl) rfl rfl h.faults0
  have c1 : w.cell? ⟨xb, 1, none⟩ = some (.bool S.locked) := hX.cell 1
  have f1 := hX.frozen 1
  replace hT := Lib.hid hT
  replace hX := Lib.hid hX
  replace hlen := Lib.hid hlen
  go_enter Tryd.func43, Tryd.ntmps43
  go_wp2_with fail
  go_ret
  exact ⟨rfl, hT.out⟩
set_option maxRecDepth 100000 in
set_option maxHeartbeats 2000000 in
theorem runlock_any (hf : S.faults ≤ 1000000000) : Calls Tryd.prog 44 #[.pointer (some ⟨xb, 0, none⟩)] w fun e w' => e = .returned (.bool S.locked) ∧ RTurned F xb S.unlock w w' := by
  obtain ⟨A, cap, R, hX, hR, hlen, ht⟩ := h.ex
  have c1 : w.cell? ⟨xb, 1, none⟩ = some (.bool S.locked) := hX.cell 1
  have f1 := hX.frozen 1
  have c2 : w.cell? ⟨xb, 2, none⟩ = some (.int .i64 S.faults) := hX.cell 2
  have f2 := hX.frozen 2
  have hf0 := h.faults0
  have h63 : S.faults + 1 ≤ 9223372036854775807 := by omega
  cases hlk : S.locked with
  | true =>
    have hT : RTurned F xb S.unlock w (w.setCell ⟨xb, 1, none⟩ (.bool false)) := by
      unfold PHeap.unlock
      rw [if_pos hlk]
      exact h.turn hX hR hlen ht ((Chg.refl (fun k => k = xb) w).setCell (p := ⟨xb, 1, none⟩) (.inl rfl) _) ((hX.set_ 1 _).eq_cs rfl) rfl rfl h.faults0
    rw [hlk] at c1
    replace hT := Lib.hid hT
    replace hX := Lib.hid hX
    replace hlen := Lib.hid hlen
    replace hlk := Lib.hid hlk
    go_enter Tryd.func44, Tryd.ntmps44
    go_wp2_with fail
    go_ret
    exact ⟨rfl, hT.out⟩
  | false =>
    have hT : RTurned F xb S.unlock w ((w.setCell ⟨xb, 1, none⟩ (.bool false)).setCell ⟨xb, 2, none⟩ (.int .i64 (S.faults + 1))) := by
      unfold PHeap.unlock
      rw [if_neg (by rw [hlk]; simp)]
      exact h.turn hX hR hlen ht (((Chg.refl (fun k => k = xb) w).setCell (p := ⟨xb, 1, none⟩) (.inl rfl) _).setCell (p := ⟨xb, 2, none⟩) (.inl rfl) _) (((hX.set_ 1 _).set_ 2 _).eq_cs (by show _ = #[Value.slice A R.length cap, .bool S.locked, .int .i64 (S.faults + 1)]; rw [hlk]; rfl)) rfl rfl (by show 0 ≤ S.faults + 1; omega)
    rw [hlk] at c1
    replace hT := Lib.hid hT
    replace hX := Lib.hid hX
    replace hlen := Lib.hid hlen
    replace hlk := Lib.hid hlk
    go_enter Tryd.func44, Tryd.ntmps44
    go_wp2_with fail
    go_ret
    exact ⟨rfl, hT.out⟩
set_option maxRecDepth 100000 in
set_option maxHeartbeats 2000000 in
theorem rsize_any (b : Int) (hb0 : 0 ≤ b) (hl : S.last ≤ 1000000) :
    Calls Tryd.prog 29 #[.pointer (some ⟨xb, 0, none⟩), .int .u64 b] w fun e w' => e = .returned (.int .i64 (S.size b)) ∧ w = w' := by
  obtain ⟨A, cap, R, hX, hR, hlen, ht⟩ := h.ex
  have c0 : w.cell? ⟨xb, 0, none⟩ = some (.slice A R.length cap) := hX.cell 0
  have hwl : IntKind.u64.wrap (R.length : Int) = (R.length : Int) := by rw [IntKind.wrap_u64]; omega
  have hat := h.at_ hlen ht b hb0
  unfold PHeap.size
  rcases hat with ⟨h1, h2, h3⟩ | ⟨i, r, hb, hr, hg, h2, h3⟩ | ⟨i, r, x, hb, hr, hg, h2, h3, h4⟩
  · rw [h2]
    simp only [Option.map_none, Option.getD_none]
    replace hR := Lib.hid hR
    replace hX := Lib.hid hX
    replace hlen := Lib.hid hlen
    replace h2 := Lib.hid h2
    replace h3 := Lib.hid h3
    clear hb0
    by_cases hb : b = 0
    · subst hb
      go_enter Tryd.func29, Tryd.ntmps29
      go_wp2_with fail
      go_ret
      exact ⟨rfl, rfl⟩
    · have d1 : (b == 0) = false := by simpa using hb
      have d2 : decide ((R.length : Int) < b) = true := by simp; omega
      replace hb := Lib.hid hb
      replace h1 := Lib.hid h1
      go_enter Tryd.func29, Tryd.ntmps29
      go_wp2_with fail
      go_ret
      exact ⟨rfl, rfl⟩
  · rw [h2]
    simp only [Option.map_none, Option.getD_none]
    have hi : i < R.length := (List.getElem?_eq_some_iff.1 hr).1
    have d1 : (b == 0) = false := by simp; omega
    have d2 : decide ((R.length : Int) < b) = false := by simp; omega
    have hwb : IntKind.i64.wrap b = b := IntWalk.i64_in _ (by omega)
    have hwb1 : IntKind.i64.wrap (b - 1) = (i : Int) := by rw [IntWalk.i64_in _ (by omega)]; omega
    have i1 : (0 : Int) ≤ (i : Int) := by omega
    have i2 : (i : Int) < (R.length : Int) := by omega
    rcases hR.row with ⟨_, rfl, _⟩ | ⟨gv, rfl, hgF, hS⟩
    · simp at hi
    have r2 : w.cell? ⟨gv, i * 3 + 2, none⟩ = some (.bool true) := by
      rw [hS.cell (by omega), rCs_at hr 2 (by decide), ← hg]
      rfl
    replace hR := Lib.hid hR
    replace hX := Lib.hid hX
    replace hlen := Lib.hid hlen
    replace h2 := Lib.hid h2
    replace h3 := Lib.hid h3
    replace hb := Lib.hid hb
    replace hr := Lib.hid hr
    replace hg := Lib.hid hg
    replace hS := Lib.hid hS
    clear hb0
    go_enter Tryd.func29, Tryd.ntmps29
    go_wp2_with fail
    go_ret
    exact ⟨rfl, rfl⟩
  · have hi : i < R.length := (List.getElem?_eq_some_iff.1 hr).1
    have d1 : (b == 0) = false := by simp; omega
    have d2 : decide ((R.length : Int) < b) = false := by simp; omega
    obtain ⟨gv', n', cap', i', g', rcap', s⟩ := h.spot hb0 h2 hl
    obtain ⟨k0, wb, wb1, i1, i2, r0, r1, r2, f2, cells, fr, sto, dro⟩ := s
    rw [k0] at c0
    injection c0 with c0
    injection c0 with c0a c0b c0c
    subst c0a c0b c0c
    rw [h2]
    simp only [Option.map_some, Option.getD_some]
    clear cells fr sto dro
    replace hR := Lib.hid hR
    replace hX := Lib.hid hX
    replace hlen := Lib.hid hlen
    replace h2 := Lib.hid h2
    replace h3 := Lib.hid h3
    replace h4 := Lib.hid h4
    replace hb := Lib.hid hb
    replace hr := Lib.hid hr
    replace hg := Lib.hid hg
    clear hb0
    go_enter Tryd.func29, Tryd.ntmps29
    go_wp2_with fail
    go_ret
    exact ⟨rfl, rfl⟩
end
end Go.Proofs.YtjoaifdjmdihoaaDoor
