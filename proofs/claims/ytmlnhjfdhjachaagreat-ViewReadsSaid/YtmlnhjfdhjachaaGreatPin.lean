/-
  The routine that pins an epoch (layer 25): what each of its functions does. No condition.
-/
import Derived.Test.YtmlnhjfdhjachaaGreatPlan
import Derived.Test.YtmlnhjfdhjachaaGreatDrive
import Derived.BigQuiet
import Derived.StillTailTactics
namespace Go.Proofs.YtmlnhjfdhjachaaGreat
set_option linter.unusedVariables false
open Go.ChangeShapes Go.WideShapes Go.ChangeAt Go.RowKit
open Go.ChangeMaps (setBlock)

structure PPin where
  cfg : PCfg
  first : Int
  tried : Int
  part : Int
  pin : Int
  epoch : Int
  taken : Bool
def PPin.cells (s : PPin) : Array Value := #[.int .i64 s.cfg.cap, .int .i64 s.cfg.pins, .int .i64 s.cfg.shelves, .int .i64 s.cfg.queue, .int .i64 s.cfg.watchers, .int .u64 s.cfg.seed, .int .i64 s.first, .int .i64 s.tried, .int .i64 s.part, .int .i64 s.pin, .int .u64 s.epoch, .bool s.taken]
def PPin.at_ (s : PPin) : Int := (s.first + s.tried) % s.cfg.pins
structure PinIn (w : World) (b : Nat) (s : PPin) : Prop where
  blk : Blk w b 148 s.cells
  right : s.part ≠ 0 → s.cfg.Right
  first : s.part ≠ 0 → 0 ≤ s.first ∧ s.first < s.cfg.pins
  tried : s.part ≠ 0 → 0 ≤ s.tried ∧ s.tried ≤ s.cfg.pins
  part : 0 ≤ s.part ∧ s.part ≤ 5
  epoch : 0 ≤ s.epoch ∧ s.epoch ≤ 18446744073709551615
theorem PinIn.keep {w w' : World} {b : Nat} {s : PPin} (h : PinIn w b s) (hb : w'.heap[b]? = w.heap[b]?) : PinIn w' b s := ⟨h.blk.keep hb, h.right, h.first, h.tried, h.part, h.epoch⟩
theorem PinIn.below {w w' : World} {b : Nat} {s : PPin} (h : PinIn w b s) (hb : Below w.heap.size w w') : PinIn w' b s := h.keep (hb.block _ h.blk.lt)
theorem PinIn.at_ok {w : World} {b : Nat} {s : PPin} (h : PinIn w b s) (hp : s.part ≠ 0) : 0 ≤ s.at_ ∧ s.at_ < s.cfg.pins ∧ s.cfg.pins ≤ 8 := by
  have h1 := (h.right hp).pins
  exact ⟨Int.emod_nonneg _ (by omega), Int.emod_lt_of_pos _ (by omega), h1.2⟩
/-- What it does next. -/
def PPin.act (s : PPin) : PAct × Bool :=
  if s.part = 1 ∨ s.part = 3 then (⟨1, 1, 0, 0, 0, ByteArray.empty⟩, true)
  else if s.part = 2 then (⟨3, 1, 3 + s.at_, 0, IntKind.u64.wrap (s.epoch + 1), ByteArray.empty⟩, true)
  else if s.part = 4 then (⟨2, 1, 3 + s.at_, 0, IntKind.u64.wrap (s.epoch + 1), ByteArray.empty⟩, true)
  else (noAct, false)
/-- What it takes. -/
def PPin.take (s : PPin) (g : PGot) : PPin :=
  if s.part = 1 then { s with epoch := g.word, part := 2 }
  else if s.part = 2 then
    if g.word = 0 then { s with part := 3 }
    else if s.tried + 1 = s.cfg.pins then { s with tried := s.tried + 1, pin := 0, epoch := 0, taken := true, part := 5 }
    else { s with tried := s.tried + 1 }
  else if s.part = 4 then { s with part := 3 }
  else if s.part = 3 then
    if g.word = s.epoch then { s with pin := s.at_, part := 5 } else { s with epoch := g.word, part := 4 }
  else s
def PPin.result (s : PPin) : (Int × Int × Bool) × Bool := if s.part = 5 then ((s.pin, s.epoch, s.taken), true) else ((0, 0, false), false)
set_option maxHeartbeats 1000000 in
theorem pinResult_any {w : World} {b : Nat} {s : PPin} (h : PinIn w b s) : Calls Tryz.prog 81 #[.pointer (some ⟨b, 0, none⟩)] w fun e w' => e = .returned (.tuple #[.agg #[.int .i64 s.result.1.1, .int .u64 s.result.1.2.1, .bool s.result.1.2.2], .bool s.result.2]) ∧ Below w.heap.size w w' := by
  have hr : s.result = if s.part = 5 then ((s.pin, s.epoch, s.taken), true) else ((0, 0, false), false) := rfl
  rw [hr]
  clear hr
  obtain ⟨cfg, first, tried, part, pin, epoch, taken⟩ := s
  have c8 : w.cell? ⟨b, 8, none⟩ = some (.int .i64 part) := h.blk.cell 8
  have c9 : w.cell? ⟨b, 9, none⟩ = some (.int .i64 pin) := h.blk.cell 9
  have c10 : w.cell? ⟨b, 10, none⟩ = some (.int .u64 epoch) := h.blk.cell 10
  have c11 : w.cell? ⟨b, 11, none⟩ = some (.bool taken) := h.blk.cell 11
  have hlt := h.blk.lt
  replace h := Lib.hid h
  by_cases hp : part = 5
  · subst hp
    go_enter Tryz.func81, Tryz.ntmps81
    go_wp2_with fail
    refine bodyPost_ret (v := .tuple #[.agg #[.int .i64 pin, .int .u64 epoch, .bool taken], .bool true]) (by simp [results, Tryz.results81, go_sem]) rfl ⟨by simp, ?_⟩
    (repeat first | exact Below.refl _ _ | assumption | refine Below.drew ?_ | refine below_drewN ?_ _ | refine Below.more_ ?_ _ | refine Below.setCell ?_ (by first | exact Nat.le_refl _ | (simp; done) | (simp; omega)) _)
  · have d1 : (part == 5) = false := by simp [hp]
    replace hp' := Lib.hid hp
    go_enter Tryz.func81, Tryz.ntmps81
    go_wp2_with fail
    refine bodyPost_ret (v := .tuple #[.agg #[.int .i64 0, .int .u64 0, .bool false], .bool false]) (by simp [results, Tryz.results81, go_sem]) rfl ⟨by simp, ?_⟩
    (repeat first | exact Below.refl _ _ | assumption | refine Below.drew ?_ | refine below_drewN ?_ _ | refine Below.more_ ?_ _ | refine Below.setCell ?_ (by first | exact Nat.le_refl _ | (simp; done) | (simp; omega)) _)
set_option maxRecDepth 100000 in
set_option maxHeartbeats 1000000 in
theorem pinCell_any {w : World} {b : Nat} {s : PPin} (h : PinIn w b s) (hp : s.part ≠ 0) : Calls Tryz.prog 74 #[.pointer (some ⟨b, 0, none⟩)] w fun e w' => e = .returned (.int .i64 (3 + s.at_)) ∧ Below w.heap.size w w' := by
  have hA := h.at_ok hp
  have hPl := fun W => planPin_any s.cfg (h.right hp) s.at_ ⟨hA.1, hA.2.1⟩ W
  have h1 := h.first hp
  have h2 := h.tried hp
  have h3 := (h.right hp).pins
  have hAt : s.at_ = (s.first + s.tried) % s.cfg.pins := rfl
  generalize s.at_ = at_ at *
  obtain ⟨⟨a, p, sh, q, t, z⟩, first, tried, part, pin, epoch, taken⟩ := s
  simp only at hAt h1 h2 h3 hA
  have c0 : w.cell? ⟨b, 0, none⟩ = some (.int .i64 a) := h.blk.cell 0
  have c1 : w.cell? ⟨b, 1, none⟩ = some (.int .i64 p) := h.blk.cell 1
  have c2 : w.cell? ⟨b, 2, none⟩ = some (.int .i64 sh) := h.blk.cell 2
  have c3 : w.cell? ⟨b, 3, none⟩ = some (.int .i64 q) := h.blk.cell 3
  have c4 : w.cell? ⟨b, 4, none⟩ = some (.int .i64 t) := h.blk.cell 4
  have c5 : w.cell? ⟨b, 5, none⟩ = some (.int .u64 z) := h.blk.cell 5
  have c6 : w.cell? ⟨b, 6, none⟩ = some (.int .i64 first) := h.blk.cell 6
  have c7 : w.cell? ⟨b, 7, none⟩ = some (.int .i64 tried) := h.blk.cell 7
  have hm : (first + tried).tmod p = at_ := by rw [Int.tmod_eq_emod_of_nonneg (by omega), hAt]
  have hw : IntKind.i64.wrap (first + tried) = first + tried := IntWalk.i64_in _ (by omega)
  have hp0 : ¬ p = 0 := by omega
  have hp1 : ¬ p = -1 := by omega
  have hpp : 0 < p := by omega
  have hpz : (p == 0) = false := by rw [beq_eq_false_iff_ne]; omega
  rw [show PCfg.val ⟨a, p, sh, q, t, z⟩ = .agg #[.int .i64 a, .int .i64 p, .int .i64 sh, .int .i64 q, .int .i64 t, .int .u64 z] from rfl] at hPl
  replace hPl := Lib.hid hPl
  replace h := Lib.hid h
  replace hAt := Lib.hid hAt
  go_enter Tryz.func74, Tryz.ntmps74
  go_wp2_with fail
  go_still_tail 19, (by kernel_rfl)
  change wpList _ _ _ _ _ w.drew
  go_wp2_with fail
  refine (hPl.out _).mono ?_; rintro e w1 ⟨rfl, hb⟩
  go_wp2_with fail
  go_ret
  exact ⟨rfl, nx (b := w.drew) (Below.refl _ _).drew (Nat.le_refl _) hb⟩
end Go.Proofs.YtmlnhjfdhjachaaGreat
