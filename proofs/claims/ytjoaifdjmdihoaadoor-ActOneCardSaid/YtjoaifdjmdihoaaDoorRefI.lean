/-
  The document's heap (layer 17): is a block there, is a cell there; the lock. No condition.
-/
import Derived.Test.YtjoaifdjmdihoaaDoorRefH
namespace Go.Proofs.YtjoaifdjmdihoaaDoor
set_option linter.unusedVariables false
open Go.ChangeShapes Go.WideShapes Go.ChangeAt Go.RowKit
open Go.ChangeMaps (setBlock)

section
variable {w : World} {xb : Nat} {S : PHeap} {F : Nat → Prop} (h : RefIn w xb S F)
include h
theorem RefIn.fault {A : Option Addr} {cap : Nat} {R : List RBlk} (hx : Blk w xb 30 #[.slice A R.length cap, .bool S.locked, .int .i64 S.faults]) (hr : RowsIn w F A cap R) (hl : (R.length : Int) = S.last) (ht : ∀ (i : Nat) r, R[i]? = some r → r.Tells (S.find ((i : Int) + 1))) :
    RTurned F xb S.fault w (w.setCell ⟨xb, 2, none⟩ (.int .i64 (S.faults + 1))) :=
  h.turn hx hr hl ht ((Chg.refl (fun k => k = xb) w).setCell (p := ⟨xb, 2, none⟩) (.inl rfl) _) ((hx.set_ 2 _).eq_cs rfl) rfl rfl (by have := h.faults0; show 0 ≤ S.faults + 1; omega)
set_option maxRecDepth 100000 in
set_option maxHeartbeats 2000000 in
theorem rfind_miss (b : Int) (hb0 : 0 ≤ b) (hx : S.find b = none) (hl : S.last ≤ 1000000) (hf : S.faults ≤ 1000000000) :
    Calls Tryd.prog 57 #[.pointer (some ⟨xb, 0, none⟩), .int .u64 b] w fun e w' => e = .returned (.int .i64 (S.miss b)) ∧ RTurned F xb S.fault w w' := by
  obtain ⟨A, cap, R, hX, hR, hlen, ht⟩ := h.ex
  have hfl := h.fault hX hR hlen ht
  have c0 : w.cell? ⟨xb, 0, none⟩ = some (.slice A R.length cap) := hX.cell 0
  have c2 : w.cell? ⟨xb, 2, none⟩ = some (.int .i64 S.faults) := hX.cell 2
  have f2 := hX.frozen 2
  have hwl : IntKind.u64.wrap (R.length : Int) = (R.length : Int) := by rw [IntKind.wrap_u64]; omega
  have h63 : S.faults + 1 ≤ 9223372036854775807 := by omega
  have hf0 := h.faults0
  have hwf : IntKind.i64.wrap (S.faults + 1) = S.faults + 1 := IntWalk.i64_in _ (by omega)
  have hat := h.at_ hlen ht b hb0
  replace hfl := Lib.hid hfl
  replace hR := Lib.hid hR
  replace hX := Lib.hid hX
  replace hlen := Lib.hid hlen
  rcases hat with ⟨h1, h2, h3⟩ | ⟨i, r, hb, hr, hg, h2, h3⟩ | ⟨i, r, x, hb, hr, hg, h2, h3, h4⟩
  · rw [h3]
    replace hx := Lib.hid hx
    replace h2 := Lib.hid h2
    replace h3 := Lib.hid h3
    clear hb0
    by_cases hb : b = 0
    · subst hb
      go_enter Tryd.func57, Tryd.ntmps57
      go_wp2_with fail
      go_ret
      exact ⟨rfl, hfl.out⟩
    · have d1 : (b == 0) = false := by simpa using hb
      have d2 : decide ((R.length : Int) < b) = true := by simp; omega
      replace hb := Lib.hid hb
      replace h1 := Lib.hid h1
      go_enter Tryd.func57, Tryd.ntmps57
      go_wp2_with fail
      go_ret
      exact ⟨rfl, hfl.out⟩
  · rw [h3]
    have hi : i < R.length := (List.getElem?_eq_some_iff.1 hr).1
    have d1 : (b == 0) = false := by simp; omega
    have d2 : decide ((R.length : Int) < b) = false := by simp; omega
    have hwb : IntKind.i64.wrap b = b := IntWalk.i64_in _ (by have := hlen.out; omega)
    have hwb1 : IntKind.i64.wrap (b - 1) = (i : Int) := by rw [IntWalk.i64_in _ (by have := hlen.out; omega)]; omega
    have i1 : (0 : Int) ≤ (i : Int) := by omega
    have i2 : (i : Int) < (R.length : Int) := by omega
    rcases hR.out.row with ⟨_, rfl, _⟩ | ⟨gv, rfl, hgF, hS⟩
    · simp at hi
    have r2 : w.cell? ⟨gv, i * 3 + 2, none⟩ = some (.bool true) := by
      rw [hS.cell (by omega), rCs_at hr 2 (by decide), ← hg]
      rfl
    replace hx := Lib.hid hx
    replace h2 := Lib.hid h2
    replace h3 := Lib.hid h3
    replace hb := Lib.hid hb
    replace hr := Lib.hid hr
    replace hg := Lib.hid hg
    replace hS := Lib.hid hS
    clear hb0
    go_enter Tryd.func57, Tryd.ntmps57
    go_wp2_with fail
    go_ret
    exact ⟨rfl, hfl.out⟩
  · rw [hx] at h2
    cases h2
set_option maxRecDepth 100000 in
set_option maxHeartbeats 2000000 in
theorem rfind_hit (b : Int) (hb0 : 0 ≤ b) {x : PBlk} (hx : S.find b = some x) (hl : S.last ≤ 1000000) :
    Calls Tryd.prog 57 #[.pointer (some ⟨xb, 0, none⟩), .int .u64 b] w fun e w' => e = .returned (.int .i64 0) ∧ w = w' := by
  obtain ⟨A, cap, R, hX, hR, hlen, ht⟩ := h.ex
  have c0 : w.cell? ⟨xb, 0, none⟩ = some (.slice A R.length cap) := hX.cell 0
  have hwl : IntKind.u64.wrap (R.length : Int) = (R.length : Int) := by rw [IntKind.wrap_u64]; omega
  have hat := h.at_ hlen ht b hb0
  replace hR := Lib.hid hR
  replace hX := Lib.hid hX
  replace hlen := Lib.hid hlen
  rcases hat with ⟨h1, h2, h3⟩ | ⟨i, r, hb, hr, hg, h2, h3⟩ | ⟨i, r, x, hb, hr, hg, h2, h3, h4⟩
  · rw [hx] at h2; cases h2
  · rw [hx] at h2; cases h2
  · have hi : i < R.length := (List.getElem?_eq_some_iff.1 hr).1
    have d1 : (b == 0) = false := by simp; omega
    have d2 : decide ((R.length : Int) < b) = false := by simp; omega
    have hwb : IntKind.i64.wrap b = b := IntWalk.i64_in _ (by have := hlen.out; omega)
    have hwb1 : IntKind.i64.wrap (b - 1) = (i : Int) := by rw [IntWalk.i64_in _ (by have := hlen.out; omega)]; omega
    have i1 : (0 : Int) ≤ (i : Int) := by omega
    have i2 : (i : Int) < (R.length : Int) := by omega
    rcases hR.out.row with ⟨_, rfl, _⟩ | ⟨gv, rfl, hgF, hS⟩
    · simp at hi
    have r2 : w.cell? ⟨gv, i * 3 + 2, none⟩ = some (.bool false) := by
      rw [hS.cell (by omega), rCs_at hr 2 (by decide), ← hg]
      rfl
    replace hx := Lib.hid hx
    replace h2 := Lib.hid h2
    replace h3 := Lib.hid h3
    replace hb := Lib.hid hb
    replace hr := Lib.hid hr
    replace hg := Lib.hid hg
    replace hS := Lib.hid hS
    clear hb0
    go_enter Tryd.func57, Tryd.ntmps57
    go_wp2_with fail
    go_ret
    exact ⟨rfl, rfl⟩
end
end Go.Proofs.YtjoaifdjmdihoaaDoor
