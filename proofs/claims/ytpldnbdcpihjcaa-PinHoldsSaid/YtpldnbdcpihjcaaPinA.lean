/-
  The routine that pins an epoch (layer 25): what it does next. No condition.
-/
import Derived.Test.YtpldnbdcpihjcaaPinA2
import Derived.Test.YtpldnbdcpihjcaaPinA4
import Derived.Deep.RegionWith
namespace Go.Proofs.Ytpldnbdcpihjcaa
set_option linter.unusedVariables false
open Go.ChangeShapes Go.WideShapes Go.ChangeAt Go.RowKit
open Go.ChangeMaps (setBlock)

set_option maxRecDepth 100000 in
set_option maxHeartbeats 4000000 in
theorem pinAct_any {w : World} {b : Nat} {s : PPin} (h : PinIn w b s) : Calls Try.prog 34 #[.pointer (some ⟨b, 0, none⟩)] w fun e w' => e = .returned (.tuple #[s.act.1.val, .bool s.act.2]) ∧ Below w.heap.size w w' := by
  have hA : s.act = if s.part = 1 ∨ s.part = 3 then (⟨1, 1, 0, 0, 0, ByteArray.empty⟩, true) else if s.part = 2 then (⟨3, 1, 3 + s.at_, 0, IntKind.u64.wrap (s.epoch + 1), ByteArray.empty⟩, true) else if s.part = 4 then (⟨2, 1, 3 + s.at_, 0, IntKind.u64.wrap (s.epoch + 1), ByteArray.empty⟩, true) else (noAct, false) := rfl
  have hz1 : Below w.heap.size w (w.alloc (.cells #[.int .i64 0, .int .u64 0, .int .i64 0, .int .u64 0, .int .u64 0, .string ⟨#[]⟩] 31)) := (Below.refl _ _).alloc (Nat.le_refl _) _
  have hz2 : Below w.heap.size w ((w.alloc (.cells #[.int .i64 0, .int .u64 0, .int .i64 0, .int .u64 0, .int .u64 0, .string ⟨#[]⟩] 31)).alloc (.cells #[.int .i64 0, .int .u64 0, .int .i64 0, .int .u64 0, .int .u64 0, .string ⟨#[]⟩] 31)) := hz1.alloc (by simp) _
  have hCl := fun W hb (hp : s.part ≠ 0) => pinCell_any (w := W) (h.below hb) hp
  have hp5 := h.part
  rw [hA]
  clear hA
  generalize hAt : s.at_ = at_ at *
  obtain ⟨cfg, first, tried, part, pin, epoch, taken⟩ := s
  simp only at hp5 ⊢
  have c8 : w.cell? ⟨b, 8, none⟩ = some (.int .i64 part) := h.blk.cell 8
  have c10 : w.cell? ⟨b, 10, none⟩ = some (.int .u64 epoch) := h.blk.cell 10
  have he : 0 ≤ epoch ∧ epoch ≤ 18446744073709551615 := h.epoch
  have hlt := h.blk.lt
  have hB := h.blk
  have B2 := Blk.new (w.alloc (.cells #[.int .i64 0, .int .u64 0, .int .i64 0, .int .u64 0, .int .u64 0, .string ⟨#[]⟩] 31)) 31 #[.int .i64 0, .int .u64 0, .int .i64 0, .int .u64 0, .int .u64 0, .string ⟨#[]⟩]
  have B1 := (Blk.new w 31 #[.int .i64 0, .int .u64 0, .int .i64 0, .int .u64 0, .int .u64 0, .string ⟨#[]⟩]).alloc (.cells #[.int .i64 0, .int .u64 0, .int .i64 0, .int .u64 0, .int .u64 0, .string ⟨#[]⟩] 31)
  simp only [World.size_alloc] at B2
  replace h := Lib.hid h
  replace hB := Lib.hid hB
  replace B1 := Lib.hid B1
  replace B2 := Lib.hid B2
  replace hz1 := Lib.hid hz1
  replace hz2 := Lib.hid hz2
  replace hCl := Lib.hid hCl
  have hcase : part = 0 ∨ part = 1 ∨ part = 2 ∨ part = 3 ∨ part = 4 ∨ part = 5 := by omega
  rcases hcase with rfl | rfl | rfl | rfl | rfl | rfl
  · as_aux_lemma =>
      simp (config := { decide := true }) only [if_false]
      rw [show PAct.val noAct = .agg #[.int .i64 0, .int .u64 0, .int .i64 0, .int .u64 0, .int .u64 0, .string ⟨#[]⟩] from rfl]
      go_enter Try.func34, Try.ntmps34
      go_wp2_with fail
      go_region
      go_wp2_with fail
      refine bodyPost_ret (v := .tuple #[.agg #[.int .i64 0, .int .u64 0, .int .i64 0, .int .u64 0, .int .u64 0, .string ⟨#[]⟩], .bool false]) (by simp [results, Try.results34, go_sem]) rfl ⟨rfl, ?_⟩
      (repeat first | exact Below.refl _ _ | assumption | refine Below.drew ?_ | refine below_drewN ?_ _ | refine Below.more_ ?_ _ | refine Below.setCell ?_ (by first | exact Nat.le_refl _ | (simp; done) | (simp; omega)) _)
  · as_aux_lemma =>
      simp (config := { decide := true }) only [if_true, if_false]
      rw [show PAct.val ⟨1, 1, 0, 0, 0, ByteArray.empty⟩ = .agg #[.int .i64 1, .int .u64 1, .int .i64 0, .int .u64 0, .int .u64 0, .string ⟨#[]⟩] from rfl]
      go_enter Try.func34, Try.ntmps34
      go_wp2_with fail
      go_region
      go_wp2_with fail
      refine bodyPost_ret (v := .tuple #[.agg #[.int .i64 1, .int .u64 1, .int .i64 0, .int .u64 0, .int .u64 0, .string ⟨#[]⟩], .bool true]) (by simp [results, Try.results34, go_sem]) rfl ⟨rfl, ?_⟩
      (repeat first | exact Below.refl _ _ | assumption | refine Below.drew ?_ | refine below_drewN ?_ _ | refine Below.more_ ?_ _ | refine Below.setCell ?_ (by first | exact Nat.le_refl _ | (simp; done) | (simp; omega)) _)
  · simp (config := { decide := true }) only [if_true, if_false]
    have hq := pinAct2_any h.out rfl
    rw [hAt] at hq
    exact hq
  · as_aux_lemma =>
      simp (config := { decide := true }) only [if_true, if_false]
      rw [show PAct.val ⟨1, 1, 0, 0, 0, ByteArray.empty⟩ = .agg #[.int .i64 1, .int .u64 1, .int .i64 0, .int .u64 0, .int .u64 0, .string ⟨#[]⟩] from rfl]
      go_enter Try.func34, Try.ntmps34
      go_wp2_with fail
      go_region
      go_wp2_with fail
      refine bodyPost_ret (v := .tuple #[.agg #[.int .i64 1, .int .u64 1, .int .i64 0, .int .u64 0, .int .u64 0, .string ⟨#[]⟩], .bool true]) (by simp [results, Try.results34, go_sem]) rfl ⟨rfl, ?_⟩
      (repeat first | exact Below.refl _ _ | assumption | refine Below.drew ?_ | refine below_drewN ?_ _ | refine Below.more_ ?_ _ | refine Below.setCell ?_ (by first | exact Nat.le_refl _ | (simp; done) | (simp; omega)) _)
  · simp (config := { decide := true }) only [if_true, if_false]
    have hq := pinAct4_any h.out rfl
    rw [hAt] at hq
    exact hq
  · as_aux_lemma =>
      simp (config := { decide := true }) only [if_false]
      rw [show PAct.val noAct = .agg #[.int .i64 0, .int .u64 0, .int .i64 0, .int .u64 0, .int .u64 0, .string ⟨#[]⟩] from rfl]
      go_enter Try.func34, Try.ntmps34
      go_wp2_with fail
      go_region
      go_wp2_with fail
      refine bodyPost_ret (v := .tuple #[.agg #[.int .i64 0, .int .u64 0, .int .i64 0, .int .u64 0, .int .u64 0, .string ⟨#[]⟩], .bool false]) (by simp [results, Try.results34, go_sem]) rfl ⟨rfl, ?_⟩
      (repeat first | exact Below.refl _ _ | assumption | refine Below.drew ?_ | refine below_drewN ?_ _ | refine Below.more_ ?_ _ | refine Below.setCell ?_ (by first | exact Nat.le_refl _ | (simp; done) | (simp; omega)) _)
end Go.Proofs.Ytpldnbdcpihjcaa
