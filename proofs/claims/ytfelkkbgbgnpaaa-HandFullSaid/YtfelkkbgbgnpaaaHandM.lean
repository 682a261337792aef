import Derived.Test.YtfelkkbgbgnpaaaHandW
import Derived.Test.YtfelkkbgbgnpaaaHandA
/-
  The routine that hands an operation in (layer 29): what it takes; its answer; how it is made; as a routine. No condition.
-/
namespace Go.Proofs.Ytfelkkbgbgnpaaa
set_option linter.unusedVariables false
open Go.ChangeShapes Go.WideShapes Go.ChangeAt Go.RowKit
open Go.ChangeMaps (setBlock)

theorem PHand.cells_eq (cfg : PCfg) (text : ByteArray) (part : Int) (res : PRes) (full : Bool) (ticket record : Int) (pv : Value) : PHand.cells ⟨cfg, text, part, res, full, ticket, record⟩ pv = #[.int .i64 cfg.cap, .int .i64 cfg.pins, .int .i64 cfg.shelves, .int .i64 cfg.queue, .int .i64 cfg.watchers, .int .u64 cfg.seed, .string text, .int .i64 part, pv, .bool full, .int .i64 ticket, .int .u64 record] := rfl
/-- The answer of reserving, for any world that is the same at the routine. -/
theorem handRes_any {W : World} {rb : Nat} {r : PRes} (h : ResIn W rb r) (w : World) (hw : w.heap[rb]? = W.heap[rb]?) : Calls Try.prog 97 #[.pointer (some ⟨rb, 0, none⟩)] w fun e w' => e = .returned (.tuple #[.agg #[.bool r.result.1.1, .int .i64 r.result.1.2], .bool r.result.2]) ∧ Below w.heap.size w w' := resResult_any (h.keep hw)
set_option maxRecDepth 100000 in
set_option maxHeartbeats 8000000 in
theorem handTake_any {w : World} {Q : Nat → Prop} {b : Nat} {s : PHand} (hQ : In Q w) (hQb : Q b) (h : HandIn w Q b s) (hmo : s.act.2 = true) (g : PGot) (hg : g.Ok) : Calls Try.prog 39 #[.pointer (some ⟨b, 0, none⟩), g.val] w fun e w' => e = .returned (.tuple #[]) ∧ HandIn w' Q b (s.take g) ∧ Chg Q w w' := by
  obtain ⟨gw, gt⟩ := g
  rw [show PGot.val ⟨gw, gt⟩ = .agg #[.int .u64 gw, .string gt] from rfl]
  have hg0 : 0 ≤ gw ∧ gw ≤ 18446744073709551615 := hg
  have hT : s.take ⟨gw, gt⟩ = if s.part = 1 then { s with record := gw, part := 2 } else if s.part = 2 then PHand.settle { s with res := s.res.take ⟨gw, gt⟩ } else if s.part = 3 then { s with part := 4 } else s := rfl
  have hTr := fun hI : s.Inv => hI.take ⟨gw, gt⟩
  rw [hT] at hTr ⊢
  clear hT
  obtain ⟨pv, hB, hrec, htk, htx, hcase⟩ := h
  have hp : 1 ≤ s.part ∧ s.part ≤ 3 := by
    rcases hcase with ⟨e, _⟩ | ⟨⟨⟨p1, p4⟩, _⟩, _⟩
    · simp [PHand.act, e] at hmo
    · refine ⟨p1, ?_⟩
      by_cases e : s.part = 4
      · simp [PHand.act, e] at hmo
      · omega
  rcases hcase with ⟨e, _⟩ | ⟨hI, rb, rfl, hq, hne, hres⟩
  · omega
  replace hTr := hTr hI
  have hz : Below w.heap.size w (w.alloc (.cells #[.int .u64 gw, .string gt] 53)) := (Below.refl _ _).alloc (Nat.le_refl _) _
  have hRT := resTake_any (w := (w.alloc (.cells #[.int .u64 gw, .string gt] 53)).drew) ((hres.below hz).keep rfl) ⟨gw, gt⟩ hg
  rw [show PGot.val ⟨gw, gt⟩ = .agg #[.int .u64 gw, .string gt] from rfl] at hRT
  have hrl := hres.blk.lt
  obtain ⟨cfg, text, part, res, full, ticket, record⟩ := s
  simp only at hrec htk htx hp hRT hres hTr ⊢
  have hBc : Blk w b 165 #[.int .i64 cfg.cap, .int .i64 cfg.pins, .int .i64 cfg.shelves, .int .i64 cfg.queue, .int .i64 cfg.watchers, .int .u64 cfg.seed, .string text, .int .i64 part, .pointer (some ⟨rb, 0, none⟩), .bool full, .int .i64 ticket, .int .u64 record] := hB
  clear hB
  have c7 := hBc.cell 7
  have c8 := hBc.cell 8
  have c9 := hBc.cell 9
  have c10 := hBc.cell 10
  have c11 := hBc.cell 11
  have f7 := hBc.frozen 7
  have f9 := hBc.frozen 9
  have f10 := hBc.frozen 10
  have f11 := hBc.frozen 11
  have hlt := hBc.lt
  have hne' : ¬ b = rb := fun e => hne e.symm
  have hkeep : ∀ W : World, Chg (fun k => k = b) w W → ResIn W rb res := fun W hC => hres.keep (hC.block rb hrl hne)
  replace hBc := Lib.hid hBc
  replace hz := Lib.hid hz
  replace hres := Lib.hid hres
  replace hI := Lib.hid hI
  replace hkeep := Lib.hid hkeep
  have hcase : part = 1 ∨ part = 2 ∨ part = 3 := by omega
  rcases hcase with rfl | rfl | rfl
  · simp (config := { decide := true }) only [if_true] at hTr ⊢
    replace hTr := Lib.hid hTr
    replace hRT := Lib.hid hRT
    as_aux_lemma =>
      go_enter Try.func39, Try.ntmps39
      go_wp2_with fail
      refine gen_world (α := fun W' => bodyPost _ _ _ _ _ W') (fun W' => Blk W' b 165 #[.int .i64 cfg.cap, .int .i64 cfg.pins, .int .i64 cfg.shelves, .int .i64 cfg.queue, .int .i64 cfg.watchers, .int .u64 cfg.seed, .string text, .int .i64 2, .pointer (some ⟨rb, 0, none⟩), .bool full, .int .i64 ticket, .int .u64 gw] ∧ Chg (fun k => k = b) w W') ⟨?_, ?_⟩ ?_
      · refine Blk.eq_cs (cs := (((#[.int .i64 cfg.cap, .int .i64 cfg.pins, .int .i64 cfg.shelves, .int .i64 cfg.queue, .int .i64 cfg.watchers, .int .u64 cfg.seed, .string text, .int .i64 1, .pointer (some ⟨rb, 0, none⟩), .bool full, .int .i64 ticket, .int .u64 record] : Array Value).setIfInBounds 11 (.int .u64 gw)).setIfInBounds 7 (.int .i64 2))) ?_ rfl
        have hB := hBc.out
        (repeat first | with_reducible exact hB | with_reducible refine Blk.drewN ?_ _ | with_reducible refine Blk.drew ?_ | with_reducible refine Blk.alloc ?_ _ | with_reducible refine Blk.set_ ?_ _ _ | refine Blk.far ?_ (by simp; omega) _)
      · (repeat first | with_reducible exact Chg.refl _ _ | with_reducible refine Chg.drew ?_ | with_reducible refine Chg.drewN ?_ _ | with_reducible refine Chg.alloc ?_ _ | refine Chg.setCell ?_ (by first | (left; rfl) | (left; assumption) | (right; exact Nat.le_refl _) | (right; simp; done) | (right; simp; omega)) _)
      rintro W' ⟨g1, g2⟩
      exact bodyPost_end (v := .tuple #[]) (results_none (by kernel_rfl) _ _ _) rfl ⟨rfl, ⟨_, g1, hg0, htk, htx, .inr ⟨hTr.out.1, rb, rfl, hq, hne, hkeep.out _ g2⟩⟩, g2.mono fun i hi => by rw [hi]; exact hQb⟩
  · simp (config := { decide := true }) only [if_true, if_false] at hTr ⊢
    clear hkeep hRT
    have hst : PHand.settle ⟨cfg, text, 2, res.take ⟨gw, gt⟩, full, ticket, record⟩ = if (res.take ⟨gw, gt⟩).over then (if (res.take ⟨gw, gt⟩).full then ⟨cfg, text, 4, res.take ⟨gw, gt⟩, true, ticket, record⟩ else ⟨cfg, text, 3, res.take ⟨gw, gt⟩, full, (res.take ⟨gw, gt⟩).ticket, record⟩) else ⟨cfg, text, 2, res.take ⟨gw, gt⟩, full, ticket, record⟩ := rfl
    rw [hst] at hTr ⊢
    cases ho : (res.take ⟨gw, gt⟩).over with
    | false =>
      rw [ho, if_neg (by decide)] at hTr
      rw [if_neg (by decide)]
      refine (handTakeU_any hBc.out hne hres.out hg ho).mono ?_
      rintro e w' ⟨rfl, g1, g2, g3⟩
      exact ⟨rfl, ⟨_, g1, hrec, htk, htx, .inr ⟨hTr.1, rb, rfl, hq, hne, g3⟩⟩, g2.mono fun i hi => by rcases hi with hi | hi <;> rw [hi] <;> assumption⟩
    | true =>
      cases hf : (res.take ⟨gw, gt⟩).full with
      | true =>
        rw [ho, hf, if_pos rfl, if_pos rfl] at hTr
        rw [if_pos rfl, if_pos rfl]
        refine (handTakeV_any hBc.out hne hres.out hg ho hf).mono ?_
        rintro e w' ⟨rfl, g1, g2, g3⟩
        exact ⟨rfl, ⟨_, g1, hrec, htk, htx, .inr ⟨hTr.1, rb, rfl, hq, hne, g3⟩⟩, g2.mono fun i hi => by rcases hi with hi | hi <;> rw [hi] <;> assumption⟩
      | false =>
        rw [ho, hf, if_pos rfl, if_neg (by decide)] at hTr
        rw [if_pos rfl, if_neg (by decide)]
        refine (handTakeW_any hBc.out hne hres.out hg ho hf).mono ?_
        rintro e w' ⟨rfl, g1, g2, g3⟩
        exact ⟨rfl, ⟨_, g1, hrec, hTr.2.1 htk, htx, .inr ⟨hTr.1, rb, rfl, hq, hne, g3⟩⟩, g2.mono fun i hi => by rcases hi with hi | hi <;> rw [hi] <;> assumption⟩
  · simp (config := { decide := true }) only [if_true, if_false] at hTr ⊢
    replace hTr := Lib.hid hTr
    replace hRT := Lib.hid hRT
    as_aux_lemma =>
      go_enter Try.func39, Try.ntmps39
      go_wp2_with fail
      refine gen_world (α := fun W' => bodyPost _ _ _ _ _ W') (fun W' => Blk W' b 165 #[.int .i64 cfg.cap, .int .i64 cfg.pins, .int .i64 cfg.shelves, .int .i64 cfg.queue, .int .i64 cfg.watchers, .int .u64 cfg.seed, .string text, .int .i64 4, .pointer (some ⟨rb, 0, none⟩), .bool full, .int .i64 ticket, .int .u64 record] ∧ Chg (fun k => k = b) w W') ⟨?_, ?_⟩ ?_
      · refine Blk.eq_cs (cs := ((#[.int .i64 cfg.cap, .int .i64 cfg.pins, .int .i64 cfg.shelves, .int .i64 cfg.queue, .int .i64 cfg.watchers, .int .u64 cfg.seed, .string text, .int .i64 3, .pointer (some ⟨rb, 0, none⟩), .bool full, .int .i64 ticket, .int .u64 record] : Array Value).setIfInBounds 7 (.int .i64 4))) ?_ rfl
        have hB := hBc.out
        (repeat first | with_reducible exact hB | with_reducible refine Blk.drewN ?_ _ | with_reducible refine Blk.drew ?_ | with_reducible refine Blk.alloc ?_ _ | with_reducible refine Blk.set_ ?_ _ _ | refine Blk.far ?_ (by simp; omega) _)
      · (repeat first | with_reducible exact Chg.refl _ _ | with_reducible refine Chg.drew ?_ | with_reducible refine Chg.drewN ?_ _ | with_reducible refine Chg.alloc ?_ _ | refine Chg.setCell ?_ (by first | (left; rfl) | (left; assumption) | (right; exact Nat.le_refl _) | (right; simp; done) | (right; simp; omega)) _)
      rintro W' ⟨g1, g2⟩
      exact bodyPost_end (v := .tuple #[]) (results_none (by kernel_rfl) _ _ _) rfl ⟨rfl, ⟨_, g1, hrec, htk, htx, .inr ⟨hTr.out.1, rb, rfl, hq, hne, hkeep.out _ g2⟩⟩, g2.mono fun i hi => by rw [hi]; exact hQb⟩
set_option maxRecDepth 100000 in
set_option maxHeartbeats 4000000 in
theorem handResult_any {w : World} {Q : Nat → Prop} {b : Nat} {s : PHand} (h : HandIn w Q b s) : Calls Try.prog 37 #[.pointer (some ⟨b, 0, none⟩)] w fun e w' => e = .returned (.tuple #[.agg #[.bool s.result.1.1, .int .i64 s.result.1.2.1, .int .u64 s.result.1.2.2], .bool s.result.2]) ∧ Below w.heap.size w w' := by
  have hr : s.result = if s.part = 4 then ((s.full, s.ticket, s.record), true) else ((false, 0, 0), false) := rfl
  rw [hr]
  clear hr
  obtain ⟨pv, hB, hrec, htk, htx, hcase⟩ := h
  obtain ⟨cfg, text, part, res, full, ticket, record⟩ := s
  simp only
  have hBc : Blk w b 165 #[.int .i64 cfg.cap, .int .i64 cfg.pins, .int .i64 cfg.shelves, .int .i64 cfg.queue, .int .i64 cfg.watchers, .int .u64 cfg.seed, .string text, .int .i64 part, pv, .bool full, .int .i64 ticket, .int .u64 record] := hB
  clear hB
  have c7 := hBc.cell 7
  have c9 := hBc.cell 9
  have c10 := hBc.cell 10
  have c11 := hBc.cell 11
  have hlt := hBc.lt
  replace hBc := Lib.hid hBc
  replace hcase := Lib.hid hcase
  by_cases hp : part = 4
  · subst hp
    go_enter Try.func37, Try.ntmps37
    go_wp2_with fail
    refine bodyPost_ret (v := .tuple #[.agg #[.bool full, .int .i64 ticket, .int .u64 record], .bool true]) (by simp [results, Try.results37, go_sem]) rfl ⟨by simp, ?_⟩
    (repeat first | exact Below.refl _ _ | assumption | refine Below.drew ?_ | refine below_drewN ?_ _ | refine Below.more_ ?_ _ | refine Below.setCell ?_ (by first | exact Nat.le_refl _ | (simp; done) | (simp; omega)) _)
  · have d1 : (part == 4) = false := by simp [hp]
    simp only [hp, if_false]
    replace hp' := Lib.hid hp
    go_enter Try.func37, Try.ntmps37
    go_wp2_with fail
    refine bodyPost_ret (v := .tuple #[.agg #[.bool false, .int .i64 0, .int .u64 0], .bool false]) (by simp [results, Try.results37, go_sem]) rfl ⟨rfl, ?_⟩
    (repeat first | exact Below.refl _ _ | assumption | refine Below.drew ?_ | refine below_drewN ?_ _ | refine Below.more_ ?_ _ | refine Below.setCell ?_ (by first | exact Nat.le_refl _ | (simp; done) | (simp; omega)) _)
def HandR (w : World) (Q : Nat → Prop) (b : Nat) (s : PHand) : Prop := In Q w ∧ Q b ∧ HandIn w Q b s
theorem handAct_ok {w : World} {Q : Nat → Prop} {b : Nat} {s : PHand} (h : HandIn w Q b s) : (s.act).1.Ok := by
  have k0 : (-9223372036854775808 : Int) ≤ 0 ∧ (0 : Int) ≤ 9223372036854775807 := by decide
  have k2 : (-9223372036854775808 : Int) ≤ 2 ∧ (2 : Int) ≤ 9223372036854775807 := by decide
  have k5 : (-9223372036854775808 : Int) ≤ 5 ∧ (5 : Int) ≤ 9223372036854775807 := by decide
  have z : (0 : Int) ≤ 0 ∧ (0 : Int) ≤ 18446744073709551615 := by decide
  have z1 : (0 : Int) ≤ 1 ∧ (1 : Int) ≤ 18446744073709551615 := by decide
  have hE : ByteArray.empty.size ≤ 9223372036854775807 := by decide
  obtain ⟨pv, hB, hrec, htk, htx, hcase⟩ := h
  unfold PHand.act
  split
  · exact ⟨k5, z, k2, z, z, htx⟩
  split
  · rename_i hp
    rcases hcase with ⟨e, _⟩ | ⟨_, rb, _, _, _, hr⟩
    · omega
    · exact resRout.okA (w := w) (G := fun k => k = rb) (b := rb) (s := s.res) ⟨fun k hk => by rw [hk]; exact hr.blk.lt, rfl, hr⟩
  split
  · rename_i hp
    rcases hcase with ⟨e, _⟩ | ⟨hI, _⟩
    · omega
    · have := ringAt_ok hI.right s.ticket htk.1
      exact ⟨k2, z1, by show -9223372036854775808 ≤ ringAt s.cfg s.ticket ∧ ringAt s.cfg s.ticket ≤ 9223372036854775807; omega, z, hrec, hE⟩
  · exact ⟨k0, z, k0, z, z, hE⟩
end Go.Proofs.Ytfelkkbgbgnpaaa

/-
  Handing in (layer 29), as a routine. No condition.
-/
namespace Go.Proofs.Ytfelkkbgbgnpaaa
set_option linter.unusedVariables false
open Go.ChangeShapes Go.WideShapes Go.ChangeAt Go.RowKit
open Go.ChangeMaps (setBlock)

def handRout : Rout PHand where
  T := 78
  fAct := 36
  fTake := 39
  mAct := fun _ _ => by kernel_rfl
  mTake := fun _ _ => by kernel_rfl
  nAct := fun _ _ => by kernel_rfl
  nTake := fun _ _ => by kernel_rfl
  eAct := fun _ _ => by kernel_rfl
  eTake := fun _ _ => by kernel_rfl
  R := HandR
  own := fun h => h.1
  hG := fun h => h.2.1
  keep := fun ⟨h1, h2, h3⟩ hs hk => ⟨h1.mono hs, h2, h3.keep h2 hk⟩
  act := PHand.act
  take := PHand.take
  okA := fun h => handAct_ok h.2.2
  cAct := fun ⟨_, _, h⟩ => handAct_any h
  cTake := fun {w G b s} g ⟨h1, h2, h3⟩ hg hmo => (handTake_any h1 h2 h3 hmo g hg).mono fun e w' ⟨he, hv, hc⟩ => ⟨he, ⟨h1.nw hc.size, .inl h2, hv.wide fun k hk => .inl hk⟩, hc⟩
end Go.Proofs.Ytfelkkbgbgnpaaa

/-
  How a routine that hands in is made (layer 29). No condition.
-/
namespace Go.Proofs.Ytfelkkbgbgnpaaa
set_option linter.unusedVariables false
open Go.ChangeShapes Go.WideShapes Go.ChangeAt Go.RowKit
open Go.ChangeMaps (setBlock)

set_option maxRecDepth 100000 in
set_option maxHeartbeats 40000000 in
theorem handNewR_any (c : PCfg) (hc : c.Right) (text : ByteArray) (w : World) : Calls Try.prog 35 #[.agg #[.int .i64 c.cap, .int .i64 c.pins, .int .i64 c.shelves, .int .i64 c.queue, .int .i64 c.watchers, .int .u64 c.seed], .string text] w fun e w' => ∃ b rb, e = .returned (.pointer (some ⟨b, 0, none⟩)) ∧ Blk w' b 165 #[.int .i64 c.cap, .int .i64 c.pins, .int .i64 c.shelves, .int .i64 c.queue, .int .i64 c.watchers, .int .u64 c.seed, .string text, .int .i64 1, .pointer (some ⟨rb, 0, none⟩), .bool false, .int .i64 0, .int .u64 0] ∧ w.heap.size ≤ b ∧ w.heap.size ≤ rb ∧ rb ≠ b ∧ ResIn w' rb (newRes c) ∧ Below w.heap.size w w' := by
  have hR := fun W => right_cfg c W
  rw [(PCfg.right_iff c).2 hc] at hR
  have hN := fun W => resNew_any c W
  rw [show PCfg.val c = .agg #[.int .i64 c.cap, .int .i64 c.pins, .int .i64 c.shelves, .int .i64 c.queue, .int .i64 c.watchers, .int .u64 c.seed] from rfl] at hR hN
  generalize newRes c = NR at *
  have B1 := Blk.new w 24 #[.int .i64 c.cap, .int .i64 c.pins, .int .i64 c.shelves, .int .i64 c.queue, .int .i64 c.watchers, .int .u64 c.seed]
  have hz : Below w.heap.size w (w.alloc (.cells #[.int .i64 c.cap, .int .i64 c.pins, .int .i64 c.shelves, .int .i64 c.queue, .int .i64 c.watchers, .int .u64 c.seed] 24)) := (Below.refl _ _).alloc (Nat.le_refl _) _
  clear hc
  obtain ⟨ca, cp, cs, cq, cw, ce⟩ := c
  simp only at hR hN B1 hz ⊢
  replace B1 := Lib.hid B1
  replace hz := Lib.hid hz
  replace hR := Lib.hid hR
  replace hN := Lib.hid hN
  go_enter Try.func35, Try.ntmps35
  go_wp2_with fail
  refine (hR.out _).mono ?_; rintro e w1 ⟨rfl, hb⟩
  have hz1 := nx hz.out (Nat.le_refl _) hb
  have B2 := B1.out.below hb (by simp)
  have d0 := B2.cell 0
  have d1 := B2.cell 1
  have d2 := B2.cell 2
  have d3 := B2.cell 3
  have d4 := B2.cell 4
  have d5 := B2.cell 5
  have hs1 := B2.lt
  clear hb
  replace B2 := Lib.hid B2
  replace hz1 := Lib.hid hz1
  go_wp2_with fail
  go_region_with (go_at_call 90; refine (hN.out _).mono ?_; rintro e w2 ⟨rb, rfl, hV, hrb, hb2⟩; have hB3 := Blk.below (w := w1.drew) B2.out hb2 hs1; have d0' := hB3.cell 0; have d1' := hB3.cell 1; have d2' := hB3.cell 2; have d3' := hB3.cell 3; have d4' := hB3.cell 4; have d5' := hB3.cell 5; have hz2 := nx (b := w1.drew) hz1.out.drew (Nat.le_refl _) hb2; replace hB3 := Lib.hid hB3; replace hz2 := Lib.hid hz2; replace hV := Lib.hid hV; clear hb2)
  all_goals
    go_wp2_with fail
    go_ret
    have hrl := hV.out.blk.lt
    have hz1s := hz1.out.size
    have hrb' : w1.heap.size ≤ rb := hrb
    exact ⟨w2.heap.size, rb, rfl, Blk.new w2 _ _, hz2.out.size, by omega, by omega, hV.out.keep (Below.heap_alloc w2 _ rb hrl), hz2.out.alloc hz2.out.size _⟩
set_option maxRecDepth 100000 in
set_option maxHeartbeats 4000000 in
theorem handNew_any (c : PCfg) (text : ByteArray) (htx : text.size ≤ 9223372036854775807) (w : World) : Calls Try.prog 35 #[c.val, .string text] w fun e w' => ∃ b, e = .returned (.pointer (some ⟨b, 0, none⟩)) ∧ HandIn w' (fun k => w.heap.size ≤ k ∧ k < w'.heap.size) b (newHand c text) ∧ w.heap.size ≤ b ∧ Below w.heap.size w w' := by
  have hR := fun W => right_cfg c W
  have hN := fun W => resNew_any c W
  have hfin : ∀ (W : World) (b rb : Nat), c.Right → Blk W b 165 #[.int .i64 c.cap, .int .i64 c.pins, .int .i64 c.shelves, .int .i64 c.queue, .int .i64 c.watchers, .int .u64 c.seed, .string text, .int .i64 1, .pointer (some ⟨rb, 0, none⟩), .bool false, .int .i64 0, .int .u64 0] → w.heap.size ≤ b → w.heap.size ≤ rb → rb ≠ b → ResIn W rb (newRes c) → HandIn W (fun k => w.heap.size ≤ k ∧ k < W.heap.size) b (newHand c text) := fun W b rb hc h1 h2 h3 h4 h5 => by
    have hn : newHand c text = ⟨c, text, 1, newRes c, false, 0, 0⟩ := by unfold newHand; rw [if_pos ((PCfg.right_iff c).2 hc)]
    rw [hn]
    exact ⟨_, h1, by show (0 : Int) ≤ 0 ∧ (0 : Int) ≤ 18446744073709551615; decide, by show (0 : Int) ≤ 0 ∧ (0 : Int) ≤ 9223372036854775807; decide, htx, .inr ⟨⟨by show (1 : Int) ≤ 1 ∧ (1 : Int) ≤ 4; decide, hc, ⟨rfl, (PCfg.right_iff c).2 hc⟩, fun _ => ⟨rfl, rfl, rfl⟩, fun e => by simp at e⟩, rb, rfl, ⟨h3, h5.blk.lt⟩, h4, h5⟩⟩
  have hno : ∀ (W : World) (b : Nat), c.right = false → Blk W b 165 #[.int .i64 0, .int .i64 0, .int .i64 0, .int .i64 0, .int .i64 0, .int .u64 0, .string ⟨#[]⟩, .int .i64 0, .pointer none, .bool false, .int .i64 0, .int .u64 0] → HandIn W (fun k => w.heap.size ≤ k ∧ k < W.heap.size) b (newHand c text) := fun W b hc h1 => by
    have hn : newHand c text = ⟨noCfgH, ByteArray.empty, 0, newRes noCfgH, false, 0, 0⟩ := by unfold newHand; rw [if_neg (by rw [hc]; decide)]
    rw [hn]
    exact ⟨_, h1, by show (0 : Int) ≤ 0 ∧ (0 : Int) ≤ 18446744073709551615; decide, by show (0 : Int) ≤ 0 ∧ (0 : Int) ≤ 9223372036854775807; decide, by show (0 : Nat) ≤ _; decide, .inl ⟨rfl, rfl⟩⟩
  have hri := PCfg.right_iff c
  generalize newHand c text = N at *
  generalize hNR : newRes c = NR at *
  generalize c.right = rt at *
  rw [show PCfg.val c = .agg #[.int .i64 c.cap, .int .i64 c.pins, .int .i64 c.shelves, .int .i64 c.queue, .int .i64 c.watchers, .int .u64 c.seed] from rfl] at *
  have B1 := Blk.new w 24 #[.int .i64 c.cap, .int .i64 c.pins, .int .i64 c.shelves, .int .i64 c.queue, .int .i64 c.watchers, .int .u64 c.seed]
  have hz : Below w.heap.size w (w.alloc (.cells #[.int .i64 c.cap, .int .i64 c.pins, .int .i64 c.shelves, .int .i64 c.queue, .int .i64 c.watchers, .int .u64 c.seed] 24)) := (Below.refl _ _).alloc (Nat.le_refl _) _
  replace B1 := Lib.hid B1
  replace hz := Lib.hid hz
  replace hR := Lib.hid hR
  replace hN := Lib.hid hN
  replace hfin := Lib.hid hfin
  replace hno := Lib.hid hno
  replace hri := Lib.hid hri
  cases rt with
  | false =>
    as_aux_lemma =>
      go_enter Try.func35, Try.ntmps35
      go_wp2_with fail
      refine (hR.out _).mono ?_; rintro e w1 ⟨rfl, hb⟩
      have hz1 := nx hz.out (Nat.le_refl _) hb
      clear hb
      replace hz1 := Lib.hid hz1
      go_wp2_with fail
      go_ret
      exact ⟨w1.heap.size, rfl, hno.out _ _ trivial (Blk.new w1 _ _), hz1.out.size, hz1.out.alloc hz1.out.size _⟩
  | true =>
    refine (handNewR_any c (hri.out.1 rfl) text w).mono ?_
    rintro e w' ⟨b, rb, rfl, h1, h2, h3, h4, h5, h6⟩
    rw [hNR] at h5
    exact ⟨b, rfl, hfin.out _ _ rb (hri.out.1 rfl) h1 h2 h3 h4 h5, h2, h6⟩
end Go.Proofs.Ytfelkkbgbgnpaaa
