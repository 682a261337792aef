import Derived.Test.YtfelkkbgbgnpaaaPlan
import Derived.Test.YtfelkkbgbgnpaaaWord
import Derived.Test.YtfelkkbgbgnpaaaDrive
import Derived.BigQuiet
import Derived.WalkMore
import Derived.Test.YtfelkkbgbgnpaaaTapeD
/-
  The routine that reserves a place (layer 28): what each of its functions does. No condition.
-/
namespace Go.Proofs.Ytfelkkbgbgnpaaa
set_option linter.unusedVariables false
open Go.ChangeShapes Go.WideShapes Go.ChangeAt Go.RowKit
open Go.ChangeMaps (setBlock)

structure PRes where
  cfg : PCfg
  made : Bool
  seen : Bool
  was : Int
  next : Int
  tries : Int
  over : Bool
  full : Bool
  ticket : Int
def PRes.cells (s : PRes) : Array Value := #[.int .i64 s.cfg.cap, .int .i64 s.cfg.pins, .int .i64 s.cfg.shelves, .int .i64 s.cfg.queue, .int .i64 s.cfg.watchers, .int .u64 s.cfg.seed, .bool s.made, .bool s.seen, .int .u64 s.was, .int .u64 s.next, .int .i64 s.tries, .bool s.over, .bool s.full, .int .i64 s.ticket]
def PRes.idle (s : PRes) : Bool := !s.made || s.over
def PRes.act (s : PRes) : PAct × Bool :=
  if s.idle then (noAct, false) else if s.seen then (⟨3, 1, 1, s.was, s.next, ByteArray.empty⟩, true) else (⟨1, 1, 1, 0, 0, ByteArray.empty⟩, true)
def PRes.look (s : PRes) (x : Int) : PRes :=
  if entOk x s.cfg.cap then { s with seen := true, was := x, next := entV x s.cfg.cap } else { s with over := true, full := true, ticket := 0 }
def PRes.take (s : PRes) (g : PGot) : PRes :=
  if s.idle then s else if s.seen = false then s.look g.word else if g.word = s.was then { s with over := true, full := false, ticket := cameOf s.was } else PRes.look { s with tries := IntKind.i64.wrap (s.tries + 1) } g.word
def PRes.result (s : PRes) : (Bool × Int) × Bool := if s.over then ((s.full, s.ticket), true) else ((false, 0), false)
structure ResIn (w : World) (b : Nat) (s : PRes) : Prop where
  blk : Blk w b 222 s.cells
  was : 0 ≤ s.was ∧ s.was ≤ 18446744073709551615
  next : 0 ≤ s.next ∧ s.next ≤ 18446744073709551615
theorem ResIn.keep {w w' : World} {b : Nat} {s : PRes} (h : ResIn w b s) (hb : w'.heap[b]? = w.heap[b]?) : ResIn w' b s := ⟨h.blk.keep hb, h.was, h.next⟩
theorem ResIn.below {w w' : World} {b : Nat} {s : PRes} (h : ResIn w b s) (hb : Below w.heap.size w w') : ResIn w' b s := h.keep (hb.block _ h.blk.lt)
set_option maxHeartbeats 1000000 in
theorem idle_any {w : World} {b : Nat} {s : PRes} (h : ResIn w b s) : Calls Try.prog 135 #[.pointer (some ⟨b, 0, none⟩)] w fun e w' => e = .returned (.bool s.idle) ∧ w = w' := by
  obtain ⟨cfg, made, seen, was, next, tries, over, full, ticket⟩ := s
  have c6 : w.cell? ⟨b, 6, none⟩ = some (.bool made) := h.blk.cell 6
  have c11 : w.cell? ⟨b, 11, none⟩ = some (.bool over) := h.blk.cell 11
  replace h := Lib.hid h
  cases made <;> cases over <;>
  · go_enter Try.func135, Try.ntmps135
    go_wp2
    go_ret
    exact ⟨rfl, rfl⟩
theorem idle_nil (w : World) : Calls Try.prog 135 #[.pointer none] w fun e w' => e = .returned (.bool true) ∧ w = w' := by
  go_enter Try.func135, Try.ntmps135
  go_wp2
  go_ret
  exact ⟨rfl, rfl⟩
set_option maxHeartbeats 1000000 in
theorem resResult_any {w : World} {b : Nat} {s : PRes} (h : ResIn w b s) : Calls Try.prog 97 #[.pointer (some ⟨b, 0, none⟩)] w fun e w' => e = .returned (.tuple #[.agg #[.bool s.result.1.1, .int .i64 s.result.1.2], .bool s.result.2]) ∧ Below w.heap.size w w' := by
  obtain ⟨cfg, made, seen, was, next, tries, over, full, ticket⟩ := s
  have c11 : w.cell? ⟨b, 11, none⟩ = some (.bool over) := h.blk.cell 11
  have c12 : w.cell? ⟨b, 12, none⟩ = some (.bool full) := h.blk.cell 12
  have c13 : w.cell? ⟨b, 13, none⟩ = some (.int .i64 ticket) := h.blk.cell 13
  have hlt := h.blk.lt
  replace h := Lib.hid h
  cases over
  · go_enter Try.func97, Try.ntmps97
    go_wp2_with fail
    refine bodyPost_ret (v := .tuple #[.agg #[.bool false, .int .i64 0], .bool false]) (by simp [results, Try.results97, go_sem]) rfl ⟨rfl, ?_⟩
    (repeat first | exact Below.refl _ _ | assumption | refine Below.drew ?_ | refine below_drewN ?_ _ | refine Below.more_ ?_ _ | refine Below.setCell ?_ (by first | exact Nat.le_refl _ | (simp; done) | (simp; omega)) _)
  · go_enter Try.func97, Try.ntmps97
    go_wp2_with fail
    refine bodyPost_ret (v := .tuple #[.agg #[.bool full, .int .i64 ticket], .bool true]) (by simp [results, Try.results97, go_sem]) rfl ⟨rfl, ?_⟩
    (repeat first | exact Below.refl _ _ | assumption | refine Below.drew ?_ | refine below_drewN ?_ _ | refine Below.more_ ?_ _ | refine Below.setCell ?_ (by first | exact Nat.le_refl _ | (simp; done) | (simp; omega)) _)
set_option maxHeartbeats 1000000 in
theorem resAct_nil (w : World) : Calls Try.prog 92 #[.pointer none] w fun e w' => e = .returned (.tuple #[noAct.val, .bool false]) ∧ Below w.heap.size w w' := by
  rw [show noAct.val = .agg #[.int .i64 0, .int .u64 0, .int .i64 0, .int .u64 0, .int .u64 0, .string ⟨#[]⟩] from rfl]
  go_enter Try.func92, Try.ntmps92
  go_wp2_with fail
  refine (idle_nil _).mono ?_; rintro e w1 ⟨rfl, rfl⟩
  go_wp2_with fail
  refine bodyPost_ret (v := .tuple #[.agg #[.int .i64 0, .int .u64 0, .int .i64 0, .int .u64 0, .int .u64 0, .string ⟨#[]⟩], .bool false]) (by simp [results, Try.results92, go_sem]) rfl ⟨rfl, ?_⟩
  (repeat first | exact Below.refl _ _ | assumption | refine Below.drew ?_ | refine below_drewN ?_ _ | refine Below.more_ ?_ _ | refine Below.setCell ?_ (by first | exact Nat.le_refl _ | (simp; done) | (simp; omega)) _)
set_option maxHeartbeats 1000000 in
theorem resAct_any {w : World} {b : Nat} {s : PRes} (h : ResIn w b s) : Calls Try.prog 92 #[.pointer (some ⟨b, 0, none⟩)] w fun e w' => e = .returned (.tuple #[s.act.1.val, .bool s.act.2]) ∧ Below w.heap.size w w' := by
  have hI := fun W (hb : Below w.heap.size w W) => idle_any (h.below hb)
  have hA : s.act = if s.idle then (noAct, false) else if s.seen then (⟨3, 1, 1, s.was, s.next, ByteArray.empty⟩, true) else (⟨1, 1, 1, 0, 0, ByteArray.empty⟩, true) := rfl
  rw [hA]
  clear hA
  generalize s.idle = id at *
  obtain ⟨cfg, made, seen, was, next, tries, over, full, ticket⟩ := s
  have c7 : w.cell? ⟨b, 7, none⟩ = some (.bool seen) := h.blk.cell 7
  have c8 : w.cell? ⟨b, 8, none⟩ = some (.int .u64 was) := h.blk.cell 8
  have c9 : w.cell? ⟨b, 9, none⟩ = some (.int .u64 next) := h.blk.cell 9
  have hlt := h.blk.lt
  have hz : Below w.heap.size w (w.alloc (.cells #[.int .i64 0, .int .u64 0, .int .i64 0, .int .u64 0, .int .u64 0, .string ⟨#[]⟩] 31)) := (Below.refl _ _).alloc (Nat.le_refl _) _
  replace h := Lib.hid h
  replace hI := Lib.hid hI
  replace hz := Lib.hid hz
  cases id
  · cases seen
    · simp only [Bool.false_eq_true, if_false]
      rw [show PAct.val ⟨1, 1, 1, 0, 0, ByteArray.empty⟩ = .agg #[.int .i64 1, .int .u64 1, .int .i64 1, .int .u64 0, .int .u64 0, .string ⟨#[]⟩] from rfl]
      go_enter Try.func92, Try.ntmps92
      go_wp2_with fail
      refine (hI.out _ hz.out).mono ?_; rintro e w1 ⟨rfl, rfl⟩
      go_wp2_with fail
      refine bodyPost_ret (v := .tuple #[.agg #[.int .i64 1, .int .u64 1, .int .i64 1, .int .u64 0, .int .u64 0, .string ⟨#[]⟩], .bool true]) (by simp [results, Try.results92, go_sem]) rfl ⟨rfl, ?_⟩
      (repeat first | exact Below.refl _ _ | assumption | refine Below.drew ?_ | refine below_drewN ?_ _ | refine Below.more_ ?_ _ | refine Below.setCell ?_ (by first | exact Nat.le_refl _ | (simp; done) | (simp; omega)) _)
    · simp only [Bool.false_eq_true, if_false, if_true]
      rw [show PAct.val ⟨3, 1, 1, was, next, ByteArray.empty⟩ = .agg #[.int .i64 3, .int .u64 1, .int .i64 1, .int .u64 was, .int .u64 next, .string ⟨#[]⟩] from rfl]
      go_enter Try.func92, Try.ntmps92
      go_wp2_with fail
      refine (hI.out _ hz.out).mono ?_; rintro e w1 ⟨rfl, rfl⟩
      go_wp2_with fail
      go_region
      go_wp2_with fail
      refine bodyPost_ret (v := .tuple #[.agg #[.int .i64 3, .int .u64 1, .int .i64 1, .int .u64 was, .int .u64 next, .string ⟨#[]⟩], .bool true]) (by simp [results, Try.results92, go_sem]) rfl ⟨rfl, ?_⟩
      (repeat first | exact Below.refl _ _ | assumption | refine Below.drew ?_ | refine below_drewN ?_ _ | refine Below.more_ ?_ _ | refine Below.setCell ?_ (by first | exact Nat.le_refl _ | (simp; done) | (simp; omega)) _)
  · simp only [if_true]
    rw [show noAct.val = .agg #[.int .i64 0, .int .u64 0, .int .i64 0, .int .u64 0, .int .u64 0, .string ⟨#[]⟩] from rfl]
    go_enter Try.func92, Try.ntmps92
    go_wp2_with fail
    refine (hI.out _ hz.out).mono ?_; rintro e w1 ⟨rfl, rfl⟩
    go_wp2_with fail
    refine bodyPost_ret (v := .tuple #[.agg #[.int .i64 0, .int .u64 0, .int .i64 0, .int .u64 0, .int .u64 0, .string ⟨#[]⟩], .bool false]) (by simp [results, Try.results92, go_sem]) rfl ⟨rfl, ?_⟩
    (repeat first | exact Below.refl _ _ | assumption | refine Below.drew ?_ | refine below_drewN ?_ _ | refine Below.more_ ?_ _ | refine Below.setCell ?_ (by first | exact Nat.le_refl _ | (simp; done) | (simp; omega)) _)
end Go.Proofs.Ytfelkkbgbgnpaaa

/-
  The routine that reserves a place (layer 28): what it takes; how it is made; as a routine. No condition.
-/
namespace Go.Proofs.Ytfelkkbgbgnpaaa
set_option linter.unusedVariables false
open Go.ChangeShapes Go.WideShapes Go.ChangeAt Go.RowKit
open Go.ChangeMaps (setBlock)

theorem entV_ok (a m : Int) : 0 ≤ entV a m ∧ entV a m ≤ 18446744073709551615 := by
  unfold entV
  split
  · have := cameOf_le a
    have := inOf_le a
    omega
  · decide
set_option maxHeartbeats 1000000 in
theorem look_any {w : World} {b : Nat} {s : PRes} (h : ResIn w b s) (x : Int) (hx : 0 ≤ x ∧ x ≤ 18446744073709551615) : Calls Try.prog 140 #[.pointer (some ⟨b, 0, none⟩), .int .u64 x] w fun e w' => e = .returned (.tuple #[]) ∧ ResIn w' b (s.look x) ∧ Chg (fun k => k = b) w w' := by
  have hE := fun W => enter x s.cfg.cap hx.1 hx.2 W
  have hL : s.look x = if entOk x s.cfg.cap then { s with seen := true, was := x, next := entV x s.cfg.cap } else { s with over := true, full := true, ticket := 0 } := rfl
  have hv := entV_ok x s.cfg.cap
  rw [hL]
  clear hL
  obtain ⟨⟨cap, pins, shelves, queue, watchers, seed⟩, made, seen, was, next, tries, over, full, ticket⟩ := s
  simp only at hE hv ⊢
  generalize entOk x cap = ok at *
  generalize entV x cap = v at *
  have hB : Blk w b 222 #[.int .i64 cap, .int .i64 pins, .int .i64 shelves, .int .i64 queue, .int .i64 watchers, .int .u64 seed, .bool made, .bool seen, .int .u64 was, .int .u64 next, .int .i64 tries, .bool over, .bool full, .int .i64 ticket] := h.blk
  have c0 := hB.cell 0
  have hlt := hB.lt
  have h1 : 0 ≤ was ∧ was ≤ 18446744073709551615 := h.was
  have h2 : 0 ≤ next ∧ next ≤ 18446744073709551615 := h.next
  replace h := Lib.hid h
  replace hB := Lib.hid hB
  replace hE := Lib.hid hE
  replace hv := Lib.hid hv
  go_enter Try.func140, Try.ntmps140
  go_wp2_with fail
  refine (hE.out _).mono ?_; rintro e w1 ⟨rfl, hb⟩
  have B1 := hB.out.below hb hlt
  have C1 := Chg.of_below hb (fun k => k = b)
  have f7 := B1.frozen 7
  have f8 := B1.frozen 8
  have f9 := B1.frozen 9
  have f11 := B1.frozen 11
  have f12 := B1.frozen 12
  have f13 := B1.frozen 13
  have c7 := B1.cell 7
  have c8 := B1.cell 8
  have c9 := B1.cell 9
  have c11 := B1.cell 11
  have c12 := B1.cell 12
  have c13 := B1.cell 13
  have hs := hb.size
  clear hb c0
  replace B1 := Lib.hid B1
  replace C1 := Lib.hid C1
  cases ok
  · go_wp2_with fail
    refine gen_world (α := fun W' => bodyPost _ _ _ _ _ W') (fun W' => Blk W' b 222 #[.int .i64 cap, .int .i64 pins, .int .i64 shelves, .int .i64 queue, .int .i64 watchers, .int .u64 seed, .bool made, .bool seen, .int .u64 was, .int .u64 next, .int .i64 tries, .bool true, .bool true, .int .i64 0] ∧ Chg (fun k => k = b) w W') ⟨?_, ?_⟩ ?_
    · refine Blk.eq_cs (cs := (((#[.int .i64 cap, .int .i64 pins, .int .i64 shelves, .int .i64 queue, .int .i64 watchers, .int .u64 seed, .bool made, .bool seen, .int .u64 was, .int .u64 next, .int .i64 tries, .bool over, .bool full, .int .i64 ticket] : Array Value).setIfInBounds 12 (.bool true)).setIfInBounds 13 (.int .i64 0)).setIfInBounds 11 (.bool true)) ?_ rfl
      have hB := B1.out
      (repeat first | with_reducible exact hB | with_reducible refine Blk.drewN ?_ _ | with_reducible refine Blk.drew ?_ | with_reducible refine Blk.alloc ?_ _ | with_reducible refine Blk.set_ ?_ _ _ | refine Blk.far ?_ (by simp; omega) _)
    · have hC := C1.out
      repeat first | with_reducible exact hC | with_reducible refine Chg.drew ?_ | refine Chg.setCell ?_ (by left; rfl) _
    rintro W' ⟨g1, g2⟩
    exact bodyPost_ret (v := .tuple #[]) (results_none (by kernel_rfl) _ _ _) rfl ⟨rfl, ⟨g1, h1, h2⟩, g2⟩
  · go_wp2_with fail
    refine gen_world (α := fun W' => bodyPost _ _ _ _ _ W') (fun W' => Blk W' b 222 #[.int .i64 cap, .int .i64 pins, .int .i64 shelves, .int .i64 queue, .int .i64 watchers, .int .u64 seed, .bool made, .bool true, .int .u64 x, .int .u64 v, .int .i64 tries, .bool over, .bool full, .int .i64 ticket] ∧ Chg (fun k => k = b) w W') ⟨?_, ?_⟩ ?_
    · refine Blk.eq_cs (cs := (((#[.int .i64 cap, .int .i64 pins, .int .i64 shelves, .int .i64 queue, .int .i64 watchers, .int .u64 seed, .bool made, .bool seen, .int .u64 was, .int .u64 next, .int .i64 tries, .bool over, .bool full, .int .i64 ticket] : Array Value).setIfInBounds 7 (.bool true)).setIfInBounds 8 (.int .u64 x)).setIfInBounds 9 (.int .u64 v)) ?_ rfl
      have hB := B1.out
      (repeat first | with_reducible exact hB | with_reducible refine Blk.drewN ?_ _ | with_reducible refine Blk.drew ?_ | with_reducible refine Blk.alloc ?_ _ | with_reducible refine Blk.set_ ?_ _ _ | refine Blk.far ?_ (by simp; omega) _)
    · have hC := C1.out
      repeat first | with_reducible exact hC | with_reducible refine Chg.drew ?_ | refine Chg.setCell ?_ (by left; rfl) _
    rintro W' ⟨g1, g2⟩
    exact bodyPost_end (v := .tuple #[]) (results_none (by kernel_rfl) _ _ _) rfl ⟨rfl, ⟨g1, hx, hv.out⟩, g2⟩
set_option maxRecDepth 100000 in
set_option maxHeartbeats 1000000 in
theorem resTake_any {w : World} {b : Nat} {s : PRes} (h : ResIn w b s) (g : PGot) (hg : g.Ok) : Calls Try.prog 96 #[.pointer (some ⟨b, 0, none⟩), g.val] w fun e w' => e = .returned (.tuple #[]) ∧ ResIn w' b (s.take g) ∧ Chg (fun k => k = b) w w' := by
  obtain ⟨gw, gt⟩ := g
  rw [show PGot.val ⟨gw, gt⟩ = .agg #[.int .u64 gw, .string gt] from rfl]
  have hgw : 0 ≤ gw ∧ gw ≤ 18446744073709551615 := hg
  have hz : Below w.heap.size w (w.alloc (.cells #[.int .u64 gw, .string gt] 53)) := (Below.refl _ _).alloc (Nat.le_refl _) _
  have hz0 := h.below hz
  have hI := idle_any hz0
  have hT : s.take ⟨gw, gt⟩ = if s.idle then s else if s.seen = false then s.look gw else if gw = s.was then { s with over := true, full := false, ticket := cameOf s.was } else PRes.look { s with tries := IntKind.i64.wrap (s.tries + 1) } gw := rfl
  have hlt := h.blk.lt
  by_cases hid : s.idle = true
  · rw [hid] at hI
    rw [hT, if_pos hid]
    clear hT
    replace hI := Lib.hid hI
    replace hz := Lib.hid hz
    replace hz0 := Lib.hid hz0
    go_enter Try.func96, Try.ntmps96
    go_wp2; go_step3
    go_wp2_with fail
    refine (hI.out).mono ?_; rintro e w1 ⟨rfl, rfl⟩
    go_wp2_with fail
    try rw [Exit.noGoto_ret]
    exact bodyPost_ret (v := .tuple #[]) (results_none (by kernel_rfl) _ _ _) rfl ⟨rfl, hz0.out, Chg.of_below hz.out _⟩
  have hid' : s.idle = false := by simpa using hid
  rw [hid'] at hI
  rw [hT, if_neg hid]
  clear hT
  obtain ⟨cfg, made, seen, was, next, tries, over, full, ticket⟩ := s
  have c7 : w.cell? ⟨b, 7, none⟩ = some (.bool seen) := h.blk.cell 7
  have c8 : w.cell? ⟨b, 8, none⟩ = some (.int .u64 was) := h.blk.cell 8
  have c10 : w.cell? ⟨b, 10, none⟩ = some (.int .i64 tries) := h.blk.cell 10
  have f10 := h.blk.frozen 10
  have f11 := h.blk.frozen 11
  have f12 := h.blk.frozen 12
  have f13 := h.blk.frozen 13
  have c11 : w.cell? ⟨b, 11, none⟩ = some (.bool over) := h.blk.cell 11
  have c12 : w.cell? ⟨b, 12, none⟩ = some (.bool full) := h.blk.cell 12
  have c13 : w.cell? ⟨b, 13, none⟩ = some (.int .i64 ticket) := h.blk.cell 13
  replace hI := Lib.hid hI
  replace hz := Lib.hid hz
  have hwas : 0 ≤ was ∧ was ≤ 18446744073709551615 := h.was
  have hnext : 0 ≤ next ∧ next ≤ 18446744073709551615 := h.next
  cases seen with
  | false =>
    simp only [if_true]
    have hL := look_any hz0 gw hgw
    replace hL := Lib.hid hL
    replace hz0 := Lib.hid hz0
    replace h := Lib.hid h
    go_enter Try.func96, Try.ntmps96
    go_wp2; go_step3
    go_wp2_with fail
    refine (hI.out).mono ?_; rintro e w1 ⟨rfl, rfl⟩
    go_wp2_with fail
    go_step3
    go_wp2_with fail
    refine (hL.out).mono ?_; rintro e w2 ⟨rfl, hR, hC⟩
    go_wp2_with fail
    rw [Exit.noGoto_normal]
    exact bodyPost_end (v := .tuple #[]) (results_none (by kernel_rfl) _ _ _) rfl ⟨rfl, hR, (Chg.of_below hz.out _).trans hC fun i hi => Or.inl hi⟩
  | true =>
    simp only [Bool.true_eq_false, if_false]
    by_cases he : gw = was
    · subst he
      simp only [if_true]
      have hCm := fun W => came gw hgw.1 hgw.2 W
      replace hCm := Lib.hid hCm
      replace hz0 := Lib.hid hz0
      have hB := h.blk
      replace h := Lib.hid h
      replace hB := Lib.hid hB
      go_enter Try.func96, Try.ntmps96
      go_wp2; go_step3
      go_wp2_with fail
      refine (hI.out).mono ?_; rintro e w1 ⟨rfl, rfl⟩
      go_wp2_with fail
      go_step3
      go_wp2_with fail
      go_quiet (fail)
      go_wp2_with fail
      have hzn : Below w.heap.size w ((w.alloc (.cells #[.int .u64 gw, .string gt] 53)).drewN nq) := below_drewN hz.out nq
      refine (hCm.out _).mono ?_; rintro e w2 ⟨rfl, hb2⟩
      have hb3 := nx hzn (Nat.le_refl _) hb2
      obtain ⟨c0, c1, c2, c3, c4, c5⟩ := cfg
      have B1 : Blk w2 b 222 #[.int .i64 c0, .int .i64 c1, .int .i64 c2, .int .i64 c3, .int .i64 c4, .int .u64 c5, .bool made, .bool true, .int .u64 gw, .int .u64 next, .int .i64 tries, .bool over, .bool full, .int .i64 ticket] := hB.out.below hb3 hlt
      have f11 := B1.frozen 11
      have f12 := B1.frozen 12
      have f13 := B1.frozen 13
      have e11 := B1.cell 11
      have e12 := B1.cell 12
      have e13 := B1.cell 13
      have C1 := Chg.of_below hb3 (fun k => k = b)
      clear hb2
      replace B1 := Lib.hid B1
      replace C1 := Lib.hid C1
      replace hb3 := Lib.hid hb3
      go_wp2_with fail
      rw [Exit.noGoto_normal]
      refine gen_world (α := fun W' => bodyPost _ _ _ _ _ W') (fun W' => Blk W' b 222 #[.int .i64 c0, .int .i64 c1, .int .i64 c2, .int .i64 c3, .int .i64 c4, .int .u64 c5, .bool made, .bool true, .int .u64 gw, .int .u64 next, .int .i64 tries, .bool true, .bool false, .int .i64 (cameOf gw)] ∧ Chg (fun k => k = b) w W') ⟨?_, ?_⟩ ?_
      · refine Blk.eq_cs (cs := (((#[.int .i64 c0, .int .i64 c1, .int .i64 c2, .int .i64 c3, .int .i64 c4, .int .u64 c5, .bool made, .bool true, .int .u64 gw, .int .u64 next, .int .i64 tries, .bool over, .bool full, .int .i64 ticket] : Array Value).setIfInBounds 12 (.bool false)).setIfInBounds 13 (.int .i64 (cameOf gw))).setIfInBounds 11 (.bool true)) ?_ rfl
        have hB := B1.out
        (repeat first | with_reducible exact hB | with_reducible refine Blk.drewN ?_ _ | with_reducible refine Blk.drew ?_ | with_reducible refine Blk.alloc ?_ _ | with_reducible refine Blk.set_ ?_ _ _ | refine Blk.far ?_ (by simp; omega) _)
      · have hC := C1.out
        repeat first | with_reducible exact hC | with_reducible refine Chg.drew ?_ | refine Chg.setCell ?_ (by left; rfl) _
      rintro W' ⟨g1, g2⟩
      exact bodyPost_end (v := .tuple #[]) (results_none (by kernel_rfl) _ _ _) rfl ⟨rfl, ⟨g1, hwas, hnext⟩, g2⟩
    · rw [if_neg he]
      have d1 : (gw == was) = false := by simp [he]
      have hB := h.blk
      replace h := Lib.hid h
      replace hB := Lib.hid hB
      go_enter Try.func96, Try.ntmps96
      go_wp2; go_step3
      go_wp2_with fail
      refine (hI.out).mono ?_; rintro e w1 ⟨rfl, rfl⟩
      go_wp2_with fail
      go_step3
      go_wp2_with fail
      go_quiet (fail)
      go_wp2_with fail
      have hR : ∀ nq, ResIn (((w.alloc (.cells #[.int .u64 gw, .string gt] 53)).drewN nq).setCell ⟨b, 10, none⟩ (.int .i64 (IntKind.i64.wrap (tries + 1)))) b ⟨cfg, made, true, was, next, IntKind.i64.wrap (tries + 1), over, full, ticket⟩ := fun nq =>
        ⟨Blk.eq_cs (((hB.out.alloc _).drewN nq).set_ 10 _) rfl, hwas, hnext⟩
      have hC : ∀ nq, Chg (fun k => k = b) w (((w.alloc (.cells #[.int .u64 gw, .string gt] 53)).drewN nq).setCell ⟨b, 10, none⟩ (.int .i64 (IntKind.i64.wrap (tries + 1)))) := fun nq => Chg.setCell (F := fun k => k = b) ((Chg.of_below hz.out (fun k => k = b)).drewN nq) (.inl rfl) _
      have hw64 : IntKind.i64.wrap (tries + 1) = wrap64 (tries + 1) := by first | simp [go_sem] | (rw [IntKind.wrap_i64]; unfold wrap64; omega)
      rw [hw64] at hR hC
      refine (look_any (hR nq) gw hgw).mono ?_; rintro e w2 ⟨rfl, hR2, hC2⟩
      have hC3 := (hC nq).trans hC2 fun i hi => Or.inl hi
      rw [← hw64] at hR2
      replace hw64 := Lib.hid hw64
      go_wp2_with fail
      rw [Exit.noGoto_normal]
      exact bodyPost_end (v := .tuple #[]) (results_none (by kernel_rfl) _ _ _) rfl ⟨rfl, hR2, hC3⟩
end Go.Proofs.Ytfelkkbgbgnpaaa

/-
  The routine that reserves a place (layer 28), as a routine; how it is made; the document's one on a tape. No condition.
-/
namespace Go.Proofs.Ytfelkkbgbgnpaaa
set_option linter.unusedVariables false
open Go.ChangeShapes Go.WideShapes Go.ChangeAt Go.RowKit
open Go.ChangeMaps (setBlock)

theorem look_cfg (s : PRes) (x : Int) : (s.look x).cfg = s.cfg ∧ (s.look x).made = s.made ∧ (s.look x).tries = s.tries := by
  unfold PRes.look
  split <;> exact ⟨rfl, rfl, rfl⟩
theorem PRes.take_cfg (s : PRes) (g : PGot) : (s.take g).cfg = s.cfg ∧ (s.take g).made = s.made := by
  unfold PRes.take
  split
  · exact ⟨rfl, rfl⟩
  · split
    · exact ⟨(look_cfg _ _).1, (look_cfg _ _).2.1⟩
    · split
      · exact ⟨rfl, rfl⟩
      · exact ⟨(look_cfg _ _).1, (look_cfg _ _).2.1⟩
theorem PRes.take_idle (s : PRes) (h : s.idle = true) (g : PGot) : s.take g = s := by simp [PRes.take, h]
def ResR (w : World) (Q : Nat → Prop) (b : Nat) (s : PRes) : Prop := In Q w ∧ Q b ∧ ResIn w b s
def resRout : Rout PRes where
  T := 163
  fAct := 92
  fTake := 96
  mAct := fun _ _ => by kernel_rfl
  mTake := fun _ _ => by kernel_rfl
  nAct := fun _ _ => by kernel_rfl
  nTake := fun _ _ => by kernel_rfl
  eAct := fun _ _ => by kernel_rfl
  eTake := fun _ _ => by kernel_rfl
  R := ResR
  own := fun h => h.1
  hG := fun h => h.2.1
  keep := fun ⟨h1, h2, h3⟩ hs hk => ⟨h1.mono hs, h2, h3.keep (hk _ h2)⟩
  act := PRes.act
  take := PRes.take
  okA := fun {w G b s} ⟨_, _, h3⟩ => by
    have k0 : (-9223372036854775808 : Int) ≤ 0 ∧ (0 : Int) ≤ 9223372036854775807 := by decide
    have k1 : (-9223372036854775808 : Int) ≤ 1 ∧ (1 : Int) ≤ 9223372036854775807 := by decide
    have k3 : (-9223372036854775808 : Int) ≤ 3 ∧ (3 : Int) ≤ 9223372036854775807 := by decide
    have z : (0 : Int) ≤ 0 ∧ (0 : Int) ≤ 18446744073709551615 := by decide
    have z1 : (0 : Int) ≤ 1 ∧ (1 : Int) ≤ 18446744073709551615 := by decide
    have hE : ByteArray.empty.size ≤ 9223372036854775807 := by decide
    unfold PRes.act
    split
    · exact ⟨k0, z, k0, z, z, hE⟩
    · split
      · exact ⟨k3, z1, k1, h3.was, h3.next, hE⟩
      · exact ⟨k1, z1, k1, z, z, hE⟩
  cAct := fun ⟨_, _, h⟩ => resAct_any h
  cTake := fun {w G b s} g ⟨h1, h2, h3⟩ hg _ => (resTake_any h3 g hg).mono fun e w' ⟨he, hv, hc⟩ => ⟨he, ⟨h1.nw hc.size, .inl h2, hv⟩, hc.mono fun i hi => by rw [hi]; exact h2⟩
def newRes (c : PCfg) : PRes := ⟨c, c.right, false, 0, 0, 0, false, false, 0⟩
set_option maxHeartbeats 1000000 in
theorem resNew_any (c : PCfg) (w : World) : Calls Try.prog 90 #[c.val] w fun e w' => ∃ b, e = .returned (.pointer (some ⟨b, 0, none⟩)) ∧ ResIn w' b (newRes c) ∧ w.heap.size ≤ b ∧ Below w.heap.size w w' := by
  have hR := fun W => right_cfg c W
  have hN : (newRes c).cells = #[.int .i64 c.cap, .int .i64 c.pins, .int .i64 c.shelves, .int .i64 c.queue, .int .i64 c.watchers, .int .u64 c.seed, .bool c.right, .bool false, .int .u64 0, .int .u64 0, .int .i64 0, .bool false, .bool false, .int .i64 0] := rfl
  have fin : ∀ (W : World) (b : Nat), Blk W b 222 #[.int .i64 c.cap, .int .i64 c.pins, .int .i64 c.shelves, .int .i64 c.queue, .int .i64 c.watchers, .int .u64 c.seed, .bool c.right, .bool false, .int .u64 0, .int .u64 0, .int .i64 0, .bool false, .bool false, .int .i64 0] → ResIn W b (newRes c) := fun W b h => ⟨h, by show (0 : Int) ≤ 0 ∧ (0 : Int) ≤ 18446744073709551615; decide, by show (0 : Int) ≤ 0 ∧ (0 : Int) ≤ 18446744073709551615; decide⟩
  clear hN
  generalize newRes c = N at *
  generalize c.right = rt at *
  obtain ⟨a, b, s, q, t, z⟩ := c
  rw [show PCfg.val ⟨a, b, s, q, t, z⟩ = .agg #[.int .i64 a, .int .i64 b, .int .i64 s, .int .i64 q, .int .i64 t, .int .u64 z] from rfl] at *
  simp only at fin
  have B1 := Blk.new w 24 #[.int .i64 a, .int .i64 b, .int .i64 s, .int .i64 q, .int .i64 t, .int .u64 z]
  have hz : Below w.heap.size w (w.alloc (.cells #[.int .i64 a, .int .i64 b, .int .i64 s, .int .i64 q, .int .i64 t, .int .u64 z] 24)) := (Below.refl _ _).alloc (Nat.le_refl _) _
  replace B1 := Lib.hid B1
  replace hz := Lib.hid hz
  replace hR := Lib.hid hR
  replace fin := Lib.hid fin
  go_enter Try.func90, Try.ntmps90
  go_wp2_with fail
  go_region_with (go_at_call 21; refine (hR.out _).mono ?_; rintro e w1 ⟨rfl, hb⟩; have B2 := Blk.below (w := (w.alloc (.cells #[.int .i64 a, .int .i64 b, .int .i64 s, .int .i64 q, .int .i64 t, .int .u64 z] 24)).drew) B1.out hb (by simp); have d0 := B2.cell 0; have d1 := B2.cell 1; have d2 := B2.cell 2; have d3 := B2.cell 3; have d4 := B2.cell 4; have d5 := B2.cell 5; have hb' := nx (b := (w.alloc (.cells #[.int .i64 a, .int .i64 b, .int .i64 s, .int .i64 q, .int .i64 t, .int .u64 z] 24)).drew) hz.out.drew (Nat.le_refl _) hb; replace B2 := Lib.hid B2; replace hb' := Lib.hid hb'; clear hb)
  all_goals
    go_wp2
    go_ret
    refine ⟨w1.heap.size, by simp [Act.put], fin.out _ _ (Blk.new w1 _ _), ?_, ?_⟩
    · have := hb'.out.size; omega
    · exact hb'.out.alloc hb'.out.size _
end Go.Proofs.Ytfelkkbgbgnpaaa
