import Derived.Test.YtmlnhjfdhjachaaGreatDrive
import Derived.StillTailTactics
import Derived.Laws.Tables
/-
  The tape by which the references say what a routine does next. No condition.
-/
namespace Go.Proofs.YtmlnhjfdhjachaaGreat
set_option linter.unusedVariables false
open Go.ChangeShapes Go.WideShapes Go.ChangeAt Go.RowKit
open Go.ChangeMaps (setBlock)

/-- A tape: the answers, how many were taken, whether it is over, and the act that is next. -/
structure PTape where
  got : List PGot
  at_ : Nat
  over : Bool
  act : PAct
/-- An act on a tape: its answer, and the tape behind it. -/
def PTape.doAct (T : PTape) (x : PAct) : PGot × PTape :=
  if T.over then (noGot, T)
  else match T.got[T.at_]? with
    | none => (noGot, { T with over := true, act := x })
    | some g => (g, { T with at_ := T.at_ + 1 })
/-- Answers, as cells. -/
def gotL (l : List PGot) : List Value := (l.map fun g => [Value.int .u64 g.word, .string g.text]).flatten
theorem gotL_at : ∀ (l : List PGot) (k : Nat) (g : PGot), l[k]? = some g → (gotL l)[k * 2]? = some (.int .u64 g.word) ∧ (gotL l)[k * 2 + 1]? = some (.string g.text)
  | [], k, g, h => by simp at h
  | x :: l, 0, g, h => by
    simp at h
    subst h
    simp [gotL]
  | x :: l, k + 1, g, h => by
    have := gotL_at l k g (by simpa using h)
    simp only [gotL, List.map_cons, List.flatten_cons] at this ⊢
    rw [show (k + 1) * 2 = k * 2 + 2 by omega]
    simpa using this
def PTape.cells (T : PTape) (A : Option Addr) (c : Nat) : Array Value := #[.slice A T.got.length c, .int .i64 (T.at_ : Nat), .bool T.over, .int .i64 T.act.kind, .int .u64 T.act.block, .int .i64 T.act.cell, .int .u64 T.act.old, .int .u64 T.act.new, .string T.act.text]
/-- The tape T stands at tb; its answers lie elsewhere, at A. -/
structure TapeIn (w : World) (tb : Nat) (A : Option Addr) (c : Nat) (T : PTape) : Prop where
  blk : Blk w tb 47 (T.cells A c)
  got : Reads w tb 2 A T.got.length (gotL T.got)
  len : T.got.length ≤ 1000000
  at_ : T.at_ ≤ T.got.length
theorem TapeIn.below {w w' : World} {tb c : Nat} {A : Option Addr} {T : PTape} (h : TapeIn w tb A c T) (hb : Below w.heap.size w w') : TapeIn w' tb A c T :=
  ⟨h.blk.below hb h.blk.lt, h.got.keep fun p hp => hb.cell (p := p) (by have := h.blk.lt; omega), h.len, h.at_⟩
theorem zeroGot : noGot.val = .agg #[.int .u64 0, .string ⟨#[]⟩] := rfl
set_option maxHeartbeats 1000000 in
theorem tape_over {w : World} {tb c : Nat} {A : Option Addr} {T : PTape} (h : TapeIn w tb A c T) (x : PAct) (ho : T.over = true) :
    Calls Tryz.prog 78 #[.pointer (some ⟨tb, 0, none⟩), x.val] w fun e w' => e = .returned noGot.val ∧ Below w.heap.size w w' := by
  obtain ⟨k, bb, cc, o, n, t⟩ := x
  rw [zeroGot, show PAct.val ⟨k, bb, cc, o, n, t⟩ = .agg #[.int .i64 k, .int .u64 bb, .int .i64 cc, .int .u64 o, .int .u64 n, .string t] from rfl]
  have c2 := h.blk.cell 2
  simp only [PTape.cells, ho] at c2
  have hlt := h.blk.lt
  go_enter Tryz.func78, Tryz.ntmps78
  go_wp2_with fail
  refine bodyPost_ret (v := .agg #[.int .u64 0, .string ⟨#[]⟩]) (by simp [results, Tryz.results78, go_sem]) rfl ⟨rfl, ?_⟩
  (repeat first | exact Below.refl _ _ | assumption | refine Below.drew ?_ | refine below_drewN ?_ _ | refine Below.more_ ?_ _ | refine Below.setCell ?_ (by first | exact Nat.le_refl _ | (simp; done) | (simp; omega)) _)
set_option maxHeartbeats 1000000 in
theorem tape_next {w : World} {tb c : Nat} {A : Option Addr} {T : PTape} (h : TapeIn w tb A c T) (x : PAct) (ho : T.over = false) (ha : T.at_ = T.got.length) :
    Calls Tryz.prog 78 #[.pointer (some ⟨tb, 0, none⟩), x.val] w fun e w' => e = .returned noGot.val ∧ TapeIn w' tb A c { T with over := true, act := x } ∧ Chg (fun k => k = tb) w w' := by
  obtain ⟨k, bb, cc, o, n, t⟩ := x
  obtain ⟨got, at_, over, ⟨k0, b0, c0, o0, n0, t0⟩⟩ := T
  simp only at ho ha
  subst ho ha
  rw [zeroGot, show PAct.val ⟨k, bb, cc, o, n, t⟩ = .agg #[.int .i64 k, .int .u64 bb, .int .i64 cc, .int .u64 o, .int .u64 n, .string t] from rfl]
  have hB : Blk w tb 47 #[.slice A got.length c, .int .i64 (got.length : Nat), .bool false, .int .i64 k0, .int .u64 b0, .int .i64 c0, .int .u64 o0, .int .u64 n0, .string t0] := h.blk
  have hlen : got.length ≤ 1000000 := h.len
  have hlt := hB.lt
  have e0 := hB.cell 0
  have e1 := hB.cell 1
  have e2 := hB.cell 2
  have e3 := hB.cell 3
  have e4 := hB.cell 4
  have e5 := hB.cell 5
  have e6 := hB.cell 6
  have e7 := hB.cell 7
  have e8 := hB.cell 8
  have f2 := hB.frozen 2
  have f3 := hB.frozen 3
  have f4 := hB.frozen 4
  have f5 := hB.frozen 5
  have f6 := hB.frozen 6
  have f7 := hB.frozen 7
  have f8 := hB.frozen 8
  have B2 := Blk.new (w.alloc (.cells #[.int .i64 k, .int .u64 bb, .int .i64 cc, .int .u64 o, .int .u64 n, .string t] 31)) 52 #[.int .u64 0, .string ⟨#[]⟩]
  simp only [World.size_alloc] at B2
  replace h := Lib.hid h
  replace hB := Lib.hid hB
  replace B2 := Lib.hid B2
  go_enter Tryz.func78, Tryz.ntmps78
  go_wp2_with fail
  go_quiet (fail)
  go_wp2_with fail
  clear e0 e1 e2 e3 e4 e5 e6 e7 e8 f2 f3 f4 f5 f6 f7 f8
  refine gen_world (α := fun W' => bodyPost _ _ _ _ _ W') (fun W' => Blk W' (w.heap.size + 1) 52 #[.int .u64 0, .string ⟨#[]⟩] ∧ Blk W' tb 47 #[.slice A got.length c, .int .i64 (got.length : Nat), .bool true, .int .i64 k, .int .u64 bb, .int .i64 cc, .int .u64 o, .int .u64 n, .string t] ∧ Chg (fun k => k = tb) w W') ⟨?_, ?_, ?_⟩ ?_
  · refine Blk.eq_cs (cs := ((#[.int .u64 0, .string ⟨#[]⟩] : Array Value).setIfInBounds 0 (.int .u64 0)).setIfInBounds 1 (.string ⟨#[]⟩)) ?_ rfl
    have B2 := B2.out
    (repeat first | with_reducible exact B2 | with_reducible refine Blk.drewN ?_ _ | with_reducible refine Blk.drew ?_ | with_reducible refine Blk.alloc ?_ _ | with_reducible refine Blk.set_ ?_ _ _ | refine Blk.far ?_ (by simp; omega) _)
  · refine Blk.eq_cs (cs := ((((((((#[.slice A got.length c, .int .i64 (got.length : Nat), .bool false, .int .i64 k0, .int .u64 b0, .int .i64 c0, .int .u64 o0, .int .u64 n0, .string t0] : Array Value).setIfInBounds 2 (.bool true)).setIfInBounds 3 (.int .i64 k)).setIfInBounds 4 (.int .u64 bb)).setIfInBounds 5 (.int .i64 cc)).setIfInBounds 6 (.int .u64 o)).setIfInBounds 7 (.int .u64 n)).setIfInBounds 8 (.string t))) ?_ rfl
    have hB := hB.out
    (repeat first | with_reducible exact hB | with_reducible refine Blk.drewN ?_ _ | with_reducible refine Blk.drew ?_ | with_reducible refine Blk.alloc ?_ _ | with_reducible refine Blk.set_ ?_ _ _ | refine Blk.far ?_ (by simp; omega) _)
  · (repeat first | with_reducible exact Chg.refl _ _ | with_reducible refine Chg.drew ?_ | with_reducible refine Chg.drewN ?_ _ | with_reducible refine Chg.alloc ?_ _ | refine Chg.setCell ?_ (by first | (left; rfl) | (left; assumption) | (right; exact Nat.le_refl _) | (right; simp; done) | (right; simp; omega)) _)
  rintro W' ⟨g1, g2, g3⟩
  have c0 := g1.cell 0
  have c1 := g1.cell 1
  refine bodyPost_ret (v := .agg #[.int .u64 0, .string ⟨#[]⟩]) (by simp [results, Tryz.results78, go_sem, c0, c1]) rfl ⟨rfl, ⟨g2, h.out.got.keep fun p hp => g3.cell (p := p) (by omega) (by omega), hlen, Nat.le_refl _⟩, g3⟩
set_option maxRecDepth 100000 in
set_option maxHeartbeats 1000000 in
theorem tape_take {w : World} {tb c : Nat} {A : Option Addr} {T : PTape} (h : TapeIn w tb A c T) (x : PAct) (ho : T.over = false) (g : PGot) (hg : T.got[T.at_]? = some g) :
    Calls Tryz.prog 78 #[.pointer (some ⟨tb, 0, none⟩), x.val] w fun e w' => e = .returned g.val ∧ TapeIn w' tb A c { T with at_ := T.at_ + 1 } ∧ Chg (fun k => k = tb) w w' := by
  obtain ⟨k, bb, cc, o, n, t⟩ := x
  obtain ⟨got, at_, over, ⟨k0, b0, c0, o0, n0, t0⟩⟩ := T
  obtain ⟨gw, gt⟩ := g
  simp only at ho hg
  subst ho
  rw [show PGot.val ⟨gw, gt⟩ = .agg #[.int .u64 gw, .string gt] from rfl, show PAct.val ⟨k, bb, cc, o, n, t⟩ = .agg #[.int .i64 k, .int .u64 bb, .int .i64 cc, .int .u64 o, .int .u64 n, .string t] from rfl]
  have hB : Blk w tb 47 #[.slice A got.length c, .int .i64 (at_ : Nat), .bool false, .int .i64 k0, .int .u64 b0, .int .i64 c0, .int .u64 o0, .int .u64 n0, .string t0] := h.blk
  have hlen : got.length ≤ 1000000 := h.len
  have hat : at_ < got.length := by
    rcases Nat.lt_or_ge at_ got.length with h1 | h1
    · exact h1
    · rw [List.getElem?_eq_none h1] at hg; cases hg
  obtain ⟨ad, rfl, hadb, hcl⟩ := h.got.2 (show 0 < got.length by omega)
  obtain ⟨q1, q2⟩ := gotL_at got at_ _ hg
  have r1 := hcl _ _ q1
  have r2 := hcl _ _ q2
  have hlt := hB.lt
  have e0 := hB.cell 0
  have e1 := hB.cell 1
  have e2 := hB.cell 2
  have f1 := hB.frozen 1
  have d1 : ((at_ : Int) == (got.length : Int)) = false := by rw [beq_eq_false_iff_ne]; omega
  have B2 := Blk.new (w.alloc (.cells #[.int .i64 k, .int .u64 bb, .int .i64 cc, .int .u64 o, .int .u64 n, .string t] 31)) 52 #[.int .u64 0, .string ⟨#[]⟩]
  simp only [World.size_alloc] at B2
  replace h := Lib.hid h
  replace hB := Lib.hid hB
  replace B2 := Lib.hid B2
  replace hg := Lib.hid hg
  clear q1 q2 hcl
  go_enter Tryz.func78, Tryz.ntmps78
  go_wp2_with fail
  go_quiet (fail)
  go_wp2_with fail
  have hadw : ad.block < w.heap.size := by omega
  refine gen_world (α := fun W' => Code.wp _ _ _ _ W') (fun W' => Blk W' (w.heap.size + 1) 52 #[.int .u64 0, .string ⟨#[]⟩] ∧ Blk W' tb 47 #[.slice (some ad) got.length c, .int .i64 ((at_ : Int) + 1), .bool false, .int .i64 k0, .int .u64 b0, .int .i64 c0, .int .u64 o0, .int .u64 n0, .string t0] ∧ Chg (fun k => k = tb) w W') ⟨?_, ?_, ?_⟩ ?_
  · have B2 := B2.out
    (repeat first | with_reducible exact B2 | with_reducible refine Blk.drewN ?_ _ | with_reducible refine Blk.drew ?_ | with_reducible refine Blk.alloc ?_ _ | with_reducible refine Blk.set_ ?_ _ _ | refine Blk.far ?_ (by simp; omega) _)
  · have hB := hB.out
    refine Blk.eq_cs (cs := (#[.slice (some ad) got.length c, .int .i64 (at_ : Nat), .bool false, .int .i64 k0, .int .u64 b0, .int .i64 c0, .int .u64 o0, .int .u64 n0, .string t0] : Array Value).setIfInBounds 1 (.int .i64 ((at_ : Int) + 1))) ?_ rfl
    (repeat first | with_reducible exact hB | with_reducible refine Blk.drewN ?_ _ | with_reducible refine Blk.drew ?_ | with_reducible refine Blk.alloc ?_ _ | with_reducible refine Blk.set_ ?_ _ _ | refine Blk.far ?_ (by simp; omega) _)
  · (repeat first | with_reducible exact Chg.refl _ _ | with_reducible refine Chg.drew ?_ | with_reducible refine Chg.drewN ?_ _ | with_reducible refine Chg.alloc ?_ _ | refine Chg.setCell ?_ (by first | (left; rfl) | (left; assumption) | (right; exact Nat.le_refl _) | (right; simp; done) | (right; simp; omega)) _)
  rintro W1 ⟨g1, g2, g3⟩
  have r1 := (g3.cell (p := ad.add (at_ * 2)) (by rw [block_of_add]; exact hadw) (by rw [block_of_add]; show ¬ ad.block = tb; omega)).trans r1
  have r2 := (g3.cell (p := ad.add (at_ * 2 + 1)) (by rw [block_of_add]; exact hadw) (by rw [block_of_add]; show ¬ ad.block = tb; omega)).trans r2
  clear e0 e1 e2 f1 d1
  have e0 := g2.cell 0
  have e1 := g2.cell 1
  have z0 := g1.cell 0
  have z1 := g1.cell 1
  have z2 := g1.frozen 0
  have z3 := g1.frozen 1
  replace g1 := Lib.hid g1
  replace g2 := Lib.hid g2
  replace g3 := Lib.hid g3
  have i1 : (0 : Int) ≤ (at_ : Int) := by omega
  have i2 : (at_ : Int) < (got.length : Int) := by omega
  have r3 : W1.cell? ⟨(ad.add (at_ * 2)).block, (ad.add (at_ * 2)).off + 1, none⟩ = some (.string gt) := by
    have e : (⟨(ad.add (at_ * 2)).block, (ad.add (at_ * 2)).off + 1, none⟩ : Addr) = (ad.add (at_ * 2)).add 1 := rfl
    rw [e, add_of_add]
    exact r2
  have s3 : IntKind.i64.wrap (at_ : Int) = (at_ : Int) := IntWalk.i64_in _ (by omega)
  go_still_tail 11, (by kernel_rfl)
  change wpList _ _ _ _ _ W1.drew
  have g1' := g1.out.drew
  have g2' := g2.out.drew
  have g3' := g3.out.drew
  have z0 := g1'.cell 0
  have z1 := g1'.cell 1
  have z2 := g1'.frozen 0
  have z3 := g1'.frozen 1
  generalize W1.drew = W2 at *
  replace g1' := Lib.hid g1'
  replace g2' := Lib.hid g2'
  replace g3' := Lib.hid g3'
  go_wp2_with fail
  refine gen_world (α := fun W' => bodyPost _ _ _ _ _ W') (fun W' => Blk W' (w.heap.size + 1) 52 #[.int .u64 gw, .string gt] ∧ Blk W' tb 47 #[.slice (some ad) got.length c, .int .i64 ((at_ : Int) + 1), .bool false, .int .i64 k0, .int .u64 b0, .int .i64 c0, .int .u64 o0, .int .u64 n0, .string t0] ∧ Chg (fun k => k = tb) w W') ⟨?_, ?_, ?_⟩ ?_
  · refine Blk.eq_cs (cs := ((#[.int .u64 0, .string ⟨#[]⟩] : Array Value).setIfInBounds 0 (.int .u64 gw)).setIfInBounds 1 (.string gt)) ?_ rfl
    have B2 := g1'.out
    (repeat first | with_reducible exact B2 | with_reducible refine Blk.drewN ?_ _ | with_reducible refine Blk.drew ?_ | with_reducible refine Blk.alloc ?_ _ | with_reducible refine Blk.set_ ?_ _ _ | refine Blk.far ?_ (by simp; omega) _)
  · have hB := g2'.out
    (repeat first | with_reducible exact hB | with_reducible refine Blk.drewN ?_ _ | with_reducible refine Blk.drew ?_ | with_reducible refine Blk.alloc ?_ _ | with_reducible refine Blk.set_ ?_ _ _ | refine Blk.far ?_ (by simp; omega) _)
  · have hC := g3'.out
    repeat first | with_reducible exact hC | with_reducible refine Chg.drew ?_ | refine Chg.setCell ?_ (by first | (left; rfl) | (right; simp; done) | (right; simp; omega)) _
  rintro W' ⟨j1, j2, j3⟩
  have c0 := j1.cell 0
  have c1 := j1.cell 1
  refine bodyPost_ret (v := .agg #[.int .u64 gw, .string gt]) (by simp [results, Tryz.results78, go_sem, c0, c1]) rfl ⟨rfl, ⟨?_, h.out.got.keep fun p hp => j3.cell (p := p) (by omega) (by omega), hlen, hat⟩, j3⟩
  exact Blk.eq_cs j2 (by simp [PTape.cells])
theorem PTape.over_or {T : PTape} {g : PGot} (h : T.got[T.at_]? = some g) (ho : T.over = false) (x : PAct) : T.doAct x = (g, { T with at_ := T.at_ + 1 }) := by
  simp [PTape.doAct, ho, h]
/-- AN ACT ON THE TAPE, whichever. -/
theorem tape_any {w : World} {tb c : Nat} {A : Option Addr} {T : PTape} (h : TapeIn w tb A c T) (x : PAct) :
    Calls Tryz.prog 78 #[.pointer (some ⟨tb, 0, none⟩), x.val] w fun e w' => e = .returned (T.doAct x).1.val ∧ TapeIn w' tb A c (T.doAct x).2 ∧ Chg (fun k => k = tb) w w' := by
  cases ho : T.over with
  | true =>
    refine (tape_over h x ho).mono fun e w' hw => ⟨?_, ?_, ?_⟩
    · rw [hw.1]; simp [PTape.doAct, ho]
    · have := h.below hw.2; simpa [PTape.doAct, ho] using this
    · exact Chg.of_below hw.2 _
  | false =>
    cases hg : T.got[T.at_]? with
    | none =>
      have ha : T.at_ = T.got.length := by
        have := List.getElem?_eq_none_iff.mp hg
        have := h.at_
        omega
      refine (tape_next h x ho ha).mono fun e w' hw => ⟨?_, ?_, hw.2.2⟩
      · rw [hw.1]; simp [PTape.doAct, ho, hg]
      · have := hw.2.1; simpa [PTape.doAct, ho, hg] using this
    | some g =>
      refine (tape_take h x ho g hg).mono fun e w' hw => ⟨?_, ?_, hw.2.2⟩
      · rw [hw.1]; simp [PTape.doAct, ho, hg]
      · have := hw.2.1; simpa [PTape.doAct, ho, hg] using this
end Go.Proofs.YtmlnhjfdhjachaaGreat

/-
  The tape's acts by name; the document's version (layer 22) on a tape. No condition.
-/
namespace Go.Proofs.YtmlnhjfdhjachaaGreat
set_option linter.unusedVariables false
open Go.ChangeShapes Go.WideShapes Go.ChangeAt Go.RowKit
open Go.ChangeMaps (setBlock)

set_option maxHeartbeats 1000000 in
theorem tape_store {w : World} {tb c : Nat} {A : Option Addr} {T : PTape} (h : TapeIn w tb A c T) (b i v : Int) :
    Calls Tryz.prog 77 #[.pointer (some ⟨tb, 0, none⟩), .int .u64 b, .int .i64 i, .int .u64 v] w fun e w' => e = .returned (.tuple #[]) ∧ TapeIn w' tb A c (T.doAct ⟨2, b, i, 0, v, ByteArray.empty⟩).2 ∧ Chg (fun k => k = tb) w w' := by
  have hC := tape_any h ⟨2, b, i, 0, v, ByteArray.empty⟩
  rw [show PAct.val ⟨2, b, i, 0, v, ByteArray.empty⟩ = .agg #[.int .i64 2, .int .u64 b, .int .i64 i, .int .u64 0, .int .u64 v, .string ⟨#[]⟩] from rfl] at hC
  replace hC := Lib.hid hC
  go_enter Tryz.func77, Tryz.ntmps77
  go_wp2_with fail
  refine (hC.out).mono ?_; rintro e w1 ⟨rfl, h1, h2⟩
  replace h1 := Lib.hid h1
  replace h2 := Lib.hid h2
  go_wp2_with fail
  exact bodyPost_end (v := .tuple #[]) (results_none (by kernel_rfl) _ _ _) rfl ⟨rfl, h1.out, h2.out⟩
theorem gotFld0 (x : Int) (s : ByteArray) (w : World) : (Instr.field 52 (.agg #[.int .u64 x, .string s]) 0).run Tryz.prog w = .ok (.int .u64 x) w := by kernel_rfl
/-- A change, as a value. -/
structure PChange where
  key : ByteArray
  has : Bool
  value : ByteArray
def PChange.val (c : PChange) : Value := .agg #[.string c.key, .bool c.has, .string c.value]
/-- The document's version. -/
def PTape.version (T : PTape) (epoch next : Int) (c : PChange) : Int × PTape :=
  let m := T.doAct ⟨5, 0, 3, 0, 0, if c.has then c.value else ByteArray.empty⟩
  if m.1.word = 0 then (0, m.2)
  else
    let t1 := (m.2.doAct ⟨2, m.1.word, 0, 0, epoch, ByteArray.empty⟩).2
    let t2 := if next = 0 then t1 else (t1.doAct ⟨2, m.1.word, 1, 0, next, ByteArray.empty⟩).2
    let t3 := if c.has then (t2.doAct ⟨2, m.1.word, 2, 0, 1, ByteArray.empty⟩).2 else t2
    (m.1.word, t3)
end Go.Proofs.YtmlnhjfdhjachaaGreat

/-
  A routine that is answered from a tape, and the document's program on that tape: how both go on side by side. No condition.
-/
namespace Go.Proofs.YtmlnhjfdhjachaaGreat
set_option linter.unusedVariables false
open Go.ChangeShapes Go.WideShapes Go.ChangeAt Go.RowKit
open Go.ChangeMaps (setBlock)

section
variable {σ : Type} (act : σ → PAct × Bool) (take : σ → PGot → σ)
/-- The routine behind some answers. -/
def feed (s0 : σ) (gs : List PGot) : σ := gs.foldl take s0
/-- The tape isn't over, and the routine stands where the tape does. -/
structure Fed (s0 : σ) (Q : List PGot) (T : PTape) (s : σ) : Prop where
  over : T.over = false
  got : T.got = Q
  at_ : T.at_ ≤ Q.length
  act : T.act = noAct
  st : s = feed take s0 (Q.take T.at_)
/-- The tape is over: the act that is next is the routine's. -/
structure Ended (s0 : σ) (Q : List PGot) (T : PTape) : Prop where
  over : T.over = true
  got : T.got = Q
  at_ : T.at_ ≤ Q.length
  act : act (feed take s0 Q) = (T.act, true)
variable {act take}
theorem feed_snoc (s0 : σ) (Q : List PGot) (k : Nat) (g : PGot) (h : Q[k]? = some g) : feed take s0 (Q.take (k + 1)) = take (feed take s0 (Q.take k)) g := by
  rw [List.take_add_one, h]
  simp [feed, List.foldl_append]
theorem Fed.go {s0 s : σ} {Q : List PGot} {T : PTape} (h : Fed take s0 Q T s) {x : PAct} (hx : act s = (x, true)) :
    (∃ g, Q[T.at_]? = some g ∧ T.doAct x = (g, { T with at_ := T.at_ + 1 }) ∧ Fed take s0 Q { T with at_ := T.at_ + 1 } (take s g)) ∨
    (T.doAct x = (noGot, { T with over := true, act := x }) ∧ Ended act take s0 Q { T with over := true, act := x }) := by
  have ho := h.over
  cases hg : Q[T.at_]? with
  | some g =>
    left
    refine ⟨g, rfl, ?_, h.over, h.got, ?_, h.act, ?_⟩
    · simp [PTape.doAct, ho, h.got, hg]
    · have := (List.getElem?_eq_some_iff.mp hg).1
      exact this
    · show take s g = feed take s0 (Q.take (T.at_ + 1))
      rw [feed_snoc s0 Q T.at_ g hg, h.st]
  | none =>
    right
    have hl := List.getElem?_eq_none_iff.mp hg
    have e : T.at_ = Q.length := by have := h.at_; omega
    refine ⟨by simp [PTape.doAct, ho, h.got, hg], rfl, h.got, h.at_, ?_⟩
    have h1 : feed take s0 Q = s := by rw [h.st, e, List.take_length]
    rw [h1, hx]
theorem Ended.go {s0 : σ} {Q : List PGot} {T : PTape} (h : Ended act take s0 Q T) (x : PAct) : T.doAct x = (noGot, T) := by
  simp [PTape.doAct, h.over]
/-- Where a routine is done it stays. -/
theorem feed_done {s : σ} (hd : ∀ g, take s g = s) : ∀ Q : List PGot, feed take s Q = s
  | [] => rfl
  | g :: Q => by
    show feed take (take s g) Q = s
    rw [hd g]
    exact feed_done hd Q
theorem Fed.done {s0 s : σ} {Q : List PGot} {T : PTape} (h : Fed take s0 Q T s) (hd : ∀ g, take s g = s) : feed take s0 Q = s := by
  have e : feed take s0 Q = feed take (feed take s0 (Q.take T.at_)) (Q.drop T.at_) := by
    conv => lhs; rw [← List.take_append_drop T.at_ Q]
    exact List.foldl_append
  rw [e, ← h.st]
  exact feed_done hd _
theorem Fed.start (s0 : σ) (Q : List PGot) (T : PTape) (h1 : T.over = false) (h2 : T.at_ = 0) (h3 : T.act = noAct) (h4 : T.got = Q) : Fed take s0 Q T s0 :=
  ⟨h1, h4, by omega, h3, by rw [h2]; rfl⟩
end
end Go.Proofs.YtmlnhjfdhjachaaGreat

/-
  More of the tape's acts by name. No condition.
-/
namespace Go.Proofs.YtmlnhjfdhjachaaGreat
set_option linter.unusedVariables false
open Go.ChangeShapes Go.WideShapes Go.ChangeAt Go.RowKit
open Go.ChangeMaps (setBlock)

theorem gotFld1 (x : Int) (s : ByteArray) (w : World) : (Instr.field 52 (.agg #[.int .u64 x, .string s]) 1).run Tryz.prog w = .ok (.string s) w := by kernel_rfl
set_option maxRecDepth 100000 in
set_option maxHeartbeats 1000000 in
theorem tape_load {w : World} {tb c : Nat} {A : Option Addr} {T : PTape} (h : TapeIn w tb A c T) (b i : Int) :
    Calls Tryz.prog 43 #[.pointer (some ⟨tb, 0, none⟩), .int .u64 b, .int .i64 i] w fun e w' => e = .returned (.int .u64 (T.doAct ⟨1, b, i, 0, 0, ByteArray.empty⟩).1.word) ∧ TapeIn w' tb A c (T.doAct ⟨1, b, i, 0, 0, ByteArray.empty⟩).2 ∧ Chg (fun k => k = tb) w w' := by
  have hC := tape_any h ⟨1, b, i, 0, 0, ByteArray.empty⟩
  rcases hx : (T.doAct ⟨1, b, i, 0, 0, ByteArray.empty⟩).1 with ⟨gw, gt⟩
  rw [hx, show PGot.val ⟨gw, gt⟩ = .agg #[.int .u64 gw, .string gt] from rfl, show PAct.val ⟨1, b, i, 0, 0, ByteArray.empty⟩ = .agg #[.int .i64 1, .int .u64 b, .int .i64 i, .int .u64 0, .int .u64 0, .string ⟨#[]⟩] from rfl] at hC
  replace hC := Lib.hid hC
  clear hx
  have hF := gotFld0
  go_enter Tryz.func43, Tryz.ntmps43
  go_wp2_with fail
  refine (hC.out).mono ?_; rintro e w1 ⟨rfl, h1, h2⟩
  replace h1 := Lib.hid h1
  replace h2 := Lib.hid h2
  go_wp2_with fail
  refine bodyPost_ret (v := .int .u64 gw) (by simp [results, Tryz.results43, go_sem]) rfl ⟨rfl, h1.out, h2.out⟩
set_option maxRecDepth 100000 in
set_option maxHeartbeats 1000000 in
theorem tape_swap {w : World} {tb c : Nat} {A : Option Addr} {T : PTape} (h : TapeIn w tb A c T) (b i o n : Int) :
    Calls Tryz.prog 76 #[.pointer (some ⟨tb, 0, none⟩), .int .u64 b, .int .i64 i, .int .u64 o, .int .u64 n] w fun e w' => e = .returned (.int .u64 (T.doAct ⟨3, b, i, o, n, ByteArray.empty⟩).1.word) ∧ TapeIn w' tb A c (T.doAct ⟨3, b, i, o, n, ByteArray.empty⟩).2 ∧ Chg (fun k => k = tb) w w' := by
  have hC := tape_any h ⟨3, b, i, o, n, ByteArray.empty⟩
  rcases hx : (T.doAct ⟨3, b, i, o, n, ByteArray.empty⟩).1 with ⟨gw, gt⟩
  rw [hx, show PGot.val ⟨gw, gt⟩ = .agg #[.int .u64 gw, .string gt] from rfl, show PAct.val ⟨3, b, i, o, n, ByteArray.empty⟩ = .agg #[.int .i64 3, .int .u64 b, .int .i64 i, .int .u64 o, .int .u64 n, .string ⟨#[]⟩] from rfl] at hC
  replace hC := Lib.hid hC
  clear hx
  have hF := gotFld0
  go_enter Tryz.func76, Tryz.ntmps76
  go_wp2_with fail
  refine (hC.out).mono ?_; rintro e w1 ⟨rfl, h1, h2⟩
  replace h1 := Lib.hid h1
  replace h2 := Lib.hid h2
  go_wp2_with fail
  refine bodyPost_ret (v := .int .u64 gw) (by simp [results, Tryz.results76, go_sem]) rfl ⟨rfl, h1.out, h2.out⟩
set_option maxRecDepth 100000 in
set_option maxHeartbeats 1000000 in
theorem tape_words {w : World} {tb c : Nat} {A : Option Addr} {T : PTape} (h : TapeIn w tb A c T) (b : Int) :
    Calls Tryz.prog 45 #[.pointer (some ⟨tb, 0, none⟩), .int .u64 b] w fun e w' => e = .returned (.string (T.doAct ⟨6, b, 0, 0, 0, ByteArray.empty⟩).1.text) ∧ TapeIn w' tb A c (T.doAct ⟨6, b, 0, 0, 0, ByteArray.empty⟩).2 ∧ Chg (fun k => k = tb) w w' := by
  have hC := tape_any h ⟨6, b, 0, 0, 0, ByteArray.empty⟩
  rcases hx : (T.doAct ⟨6, b, 0, 0, 0, ByteArray.empty⟩).1 with ⟨gw, gt⟩
  rw [hx, show PGot.val ⟨gw, gt⟩ = .agg #[.int .u64 gw, .string gt] from rfl, show PAct.val ⟨6, b, 0, 0, 0, ByteArray.empty⟩ = .agg #[.int .i64 6, .int .u64 b, .int .i64 0, .int .u64 0, .int .u64 0, .string ⟨#[]⟩] from rfl] at hC
  replace hC := Lib.hid hC
  clear hx
  have hF := gotFld1
  go_enter Tryz.func45, Tryz.ntmps45
  go_wp2_with fail
  refine (hC.out).mono ?_; rintro e w1 ⟨rfl, h1, h2⟩
  replace h1 := Lib.hid h1
  replace h2 := Lib.hid h2
  go_wp2_with fail
  refine bodyPost_ret (v := .string gt) (by simp [results, Tryz.results45, go_sem]) rfl ⟨rfl, h1.out, h2.out⟩
theorem Fed.go2 {σ : Type} {act : σ → PAct × Bool} {take : σ → PGot → σ} {s0 s : σ} {Q : List PGot} {T : PTape} (h : Fed take s0 Q T s) {x : PAct} (hx : act s = (x, true)) :
    (∃ g, Q[T.at_]? = some g ∧ T.doAct x = (g, { T with at_ := T.at_ + 1 }) ∧ Fed take s0 Q { T with at_ := T.at_ + 1 } (take s g)) ∨
    (T.doAct x = (noGot, { T with over := true, act := x }) ∧ Ended act take s0 Q { T with over := true, act := x } ∧ feed take s0 Q = s) := by
  rcases h.go hx with h1 | ⟨h1, h2⟩
  · exact .inl h1
  · refine .inr ⟨h1, h2, ?_⟩
    have e : T.at_ = Q.length := by
      have h3 := h.at_
      rcases Nat.lt_or_ge T.at_ Q.length with h4 | h4
      · have h5 : T.doAct x = (Q[T.at_], { T with at_ := T.at_ + 1 }) := by simp [PTape.doAct, h.over, h.got, h4]
        rw [h1] at h5
        injection h5 with _ h5
        have := congrArg PTape.over h5
        rw [h.over] at this
        cases this
      · omega
    rw [h.st, e, List.take_length]
theorem TapeIn.set_far {w : World} {tb c : Nat} {A : Option Addr} {T : PTape} (h : TapeIn w tb A c T) {p : Addr} (hp : tb < p.block) (u : Value) : TapeIn (w.setCell p u) tb A c T :=
  ⟨h.blk.far (by omega) u, h.got.setCell (by omega) u, h.len, h.at_⟩
/-- How much is left of a tape, read in the world. -/
def tapeM (tb len : Nat) (W : World) : Nat := match W.cell? ⟨tb, 1, none⟩, W.cell? ⟨tb, 2, none⟩ with
  | some (.int _ a), some (.bool o) => 2 * (len - a.toNat) + (if o then 0 else 1)
  | _, _ => 0
theorem tapeM_eq {w : World} {tb c : Nat} {A : Option Addr} {T : PTape} (h : TapeIn w tb A c T) (len : Nat) : tapeM tb len w = 2 * (len - T.at_) + (if T.over then 0 else 1) := by
  have c1 : w.cell? ⟨tb, 1, none⟩ = some (.int .i64 (T.at_ : Nat)) := h.blk.cell 1
  have c2 : w.cell? ⟨tb, 2, none⟩ = some (.bool T.over) := h.blk.cell 2
  unfold tapeM
  rw [c1, c2]
  simp
end Go.Proofs.YtmlnhjfdhjachaaGreat
