/-
  The routine that hands an operation in (layer 29): its next act. No condition.
-/
import Derived.Test.YtfelkkbgbgnpaaaHandB
namespace Go.Proofs.Ytfelkkbgbgnpaaa
set_option linter.unusedVariables false
open Go.ChangeShapes Go.WideShapes Go.ChangeAt Go.RowKit
open Go.ChangeMaps (setBlock)

set_option maxRecDepth 100000 in
set_option maxHeartbeats 4000000 in
theorem handAct_any {w : World} {Q : Nat → Prop} {b : Nat} {s : PHand} (h : HandIn w Q b s) : Calls Try.prog 36 #[.pointer (some ⟨b, 0, none⟩)] w fun e w' => e = .returned (.tuple #[s.act.1.val, .bool s.act.2]) ∧ Below w.heap.size w w' := by
  have hA : s.act = if s.part = 1 then (⟨5, 0, 2, 0, 0, s.text⟩, true) else if s.part = 2 then s.res.act else if s.part = 3 then (⟨2, 1, ringAt s.cfg s.ticket, 0, s.record, ByteArray.empty⟩, true) else (noAct, false) := rfl
  rw [hA]
  clear hA
  obtain ⟨pv, hB, hrec, htk, htx, hcase⟩ := h
  have hz : Below w.heap.size w (w.alloc (.cells #[.int .i64 0, .int .u64 0, .int .i64 0, .int .u64 0, .int .u64 0, .string ⟨#[]⟩] 31)) := (Below.refl _ _).alloc (Nat.le_refl _) _
  have B0 := Blk.new w 31 #[.int .i64 0, .int .u64 0, .int .i64 0, .int .u64 0, .int .u64 0, .string ⟨#[]⟩]
  have hRA : ∀ rb, ResIn w rb s.res → Calls Try.prog 92 #[.pointer (some ⟨rb, 0, none⟩)] (w.alloc (.cells #[.int .i64 0, .int .u64 0, .int .i64 0, .int .u64 0, .int .u64 0, .string ⟨#[]⟩] 31)) fun e w' => e = .returned (.tuple #[s.res.act.1.val, .bool s.res.act.2]) ∧ Below (w.alloc (.cells #[.int .i64 0, .int .u64 0, .int .i64 0, .int .u64 0, .int .u64 0, .string ⟨#[]⟩] 31)).heap.size (w.alloc (.cells #[.int .i64 0, .int .u64 0, .int .i64 0, .int .u64 0, .int .u64 0, .string ⟨#[]⟩] 31)) w' := fun rb hr => resAct_any (hr.below hz)
  have hRing := ringAt_ok (c := s.cfg) 
  obtain ⟨cfg, text, part, res, full, ticket, record⟩ := s
  simp only at hrec htk htx hcase hRA ⊢
  have hBc : Blk w b 165 #[.int .i64 cfg.cap, .int .i64 cfg.pins, .int .i64 cfg.shelves, .int .i64 cfg.queue, .int .i64 cfg.watchers, .int .u64 cfg.seed, .string text, .int .i64 part, pv, .bool full, .int .i64 ticket, .int .u64 record] := hB
  clear hB
  have c0 := hBc.cell 0
  have c1 := hBc.cell 1
  have c2 := hBc.cell 2
  have c3 := hBc.cell 3
  have c4 := hBc.cell 4
  have c5 := hBc.cell 5
  have c6 := hBc.cell 6
  have c7 := hBc.cell 7
  have c8 := hBc.cell 8
  have c10 := hBc.cell 10
  have c11 := hBc.cell 11
  have hlt := hBc.lt
  replace hBc := Lib.hid hBc
  replace hz := Lib.hid hz
  replace B0 := Lib.hid B0
  rcases hcase with ⟨rfl, rfl⟩ | ⟨⟨⟨p1, p4⟩, hr, hc, ha, hg⟩, rb, rfl, hq, hne, hres⟩
  · simp (config := { decide := true }) only [if_false]
    change Calls Try.prog _ _ _ (fun e w' => e = .returned (.tuple #[.agg #[.int .i64 0, .int .u64 0, .int .i64 0, .int .u64 0, .int .u64 0, .string ⟨#[]⟩], .bool false]) ∧ _)
    replace hRA := Lib.hid hRA
    replace hRing := Lib.hid hRing
    as_aux_lemma =>
      go_enter Try.func36, Try.ntmps36
      go_wp2_with fail
      refine (handNone_any _).mono ?_; rintro e w1 ⟨rfl, hb⟩
      have B1 := B0.out.below hb B0.out.lt
      have hb1 := nx hz.out (Nat.le_refl _) hb
      clear hb c0 c1 c2 c3 c4 c5 c6 c7 c8 c10 c11
      have b1c0 := B1.cell 0
      have b1c1 := B1.cell 1
      have b1c2 := B1.cell 2
      have b1c3 := B1.cell 3
      have b1c4 := B1.cell 4
      have b1c5 := B1.cell 5
      have b1f0 := B1.frozen 0
      have b1f1 := B1.frozen 1
      have b1f2 := B1.frozen 2
      have b1f3 := B1.frozen 3
      have b1f4 := B1.frozen 4
      have b1f5 := B1.frozen 5
      replace B1 := Lib.hid B1
      replace hb1 := Lib.hid hb1
      go_wp2_with fail
      refine gen_world (α := fun W' => bodyPost _ _ _ _ _ W') (fun W' => Blk W' w.heap.size 31 #[.int .i64 0, .int .u64 0, .int .i64 0, .int .u64 0, .int .u64 0, .string ⟨#[]⟩] ∧ Below w.heap.size w W') ⟨Blk.eq_cs ((((((B1.out.set_ 0 _).set_ 1 _).set_ 2 _).set_ 3 _).set_ 4 _).set_ 5 _) rfl, ?_⟩ ?_
      · repeat (refine Below.setCell ?_ (by exact Nat.le_refl _) _)
        exact hb1.out
      rintro W' ⟨g1, g2⟩
      have e0 := g1.cell 0
      have e1 := g1.cell 1
      have e2 := g1.cell 2
      have e3 := g1.cell 3
      have e4 := g1.cell 4
      have e5 := g1.cell 5
      exact bodyPost_ret (v := .tuple #[.agg #[.int .i64 0, .int .u64 0, .int .i64 0, .int .u64 0, .int .u64 0, .string ⟨#[]⟩], .bool false]) (by simp [results, Try.results36, go_sem, e0, e1, e2, e3, e4, e5]) rfl ⟨rfl, g2⟩
  simp only at hr hc ha hg p1 p4
  have hRA2 := hRA rb hres
  clear hRA
  replace hres := Lib.hid hres
  replace hRing := Lib.hid (hRing hr ticket htk.1)
  replace ha := Lib.hid ha
  replace hc := Lib.hid hc
  replace hg := Lib.hid hg
  have hcase : part = 1 ∨ part = 2 ∨ part = 3 ∨ part = 4 := by omega
  rcases hcase with rfl | rfl | rfl | rfl
  · simp (config := { decide := true }) only [if_true, if_false]
    change Calls Try.prog _ _ _ (fun e w' => e = .returned (.tuple #[.agg #[.int .i64 5, .int .u64 0, .int .i64 2, .int .u64 0, .int .u64 0, .string text], .bool true]) ∧ _)
    have hO := fun W => handOne_any 5 0 2 0 0 text (by decide) W
    replace hO := Lib.hid hO
    replace hRA2 := Lib.hid hRA2
    as_aux_lemma =>
      go_enter Try.func36, Try.ntmps36
      go_wp2_with fail
      refine (hO.out _).mono ?_; rintro e w1 ⟨rfl, hb⟩
      have B1 := B0.out.below hb B0.out.lt
      have hb1 := nx hz.out (Nat.le_refl _) hb
      clear hb c0 c1 c2 c3 c4 c5 c6 c7 c8 c10 c11
      have b1c0 := B1.cell 0
      have b1c1 := B1.cell 1
      have b1c2 := B1.cell 2
      have b1c3 := B1.cell 3
      have b1c4 := B1.cell 4
      have b1c5 := B1.cell 5
      have b1f0 := B1.frozen 0
      have b1f1 := B1.frozen 1
      have b1f2 := B1.frozen 2
      have b1f3 := B1.frozen 3
      have b1f4 := B1.frozen 4
      have b1f5 := B1.frozen 5
      replace B1 := Lib.hid B1
      replace hb1 := Lib.hid hb1
      go_wp2_with fail
      refine gen_world (α := fun W' => bodyPost _ _ _ _ _ W') (fun W' => Blk W' w.heap.size 31 #[.int .i64 5, .int .u64 0, .int .i64 2, .int .u64 0, .int .u64 0, .string text] ∧ Below w.heap.size w W') ⟨Blk.eq_cs ((((((B1.out.set_ 0 _).set_ 1 _).set_ 2 _).set_ 3 _).set_ 4 _).set_ 5 _) rfl, ?_⟩ ?_
      · repeat (refine Below.setCell ?_ (by exact Nat.le_refl _) _)
        exact hb1.out
      rintro W' ⟨g1, g2⟩
      have e0 := g1.cell 0
      have e1 := g1.cell 1
      have e2 := g1.cell 2
      have e3 := g1.cell 3
      have e4 := g1.cell 4
      have e5 := g1.cell 5
      exact bodyPost_ret (v := .tuple #[.agg #[.int .i64 5, .int .u64 0, .int .i64 2, .int .u64 0, .int .u64 0, .string text], .bool true]) (by simp [results, Try.results36, go_sem, e0, e1, e2, e3, e4, e5]) rfl ⟨rfl, g2⟩
  · simp (config := { decide := true }) only [if_true, if_false]
    rcases hx : res.act with ⟨⟨xk, xb, xc, xo, xn, xt⟩, mo⟩
    rw [hx] at hRA2
    replace hx := Lib.hid hx
    change Calls Try.prog _ _ _ (fun e w' => e = .returned (.tuple #[.agg #[.int .i64 xk, .int .u64 xb, .int .i64 xc, .int .u64 xo, .int .u64 xn, .string xt], .bool mo]) ∧ _) at hRA2 ⊢
    replace hRA2 := Lib.hid hRA2
    as_aux_lemma =>
      go_enter Try.func36, Try.ntmps36
      go_wp2_with fail
      refine (hRA2.out).mono ?_; rintro e w1 ⟨rfl, hb⟩
      have B1 := B0.out.below hb B0.out.lt
      have hb1 := nx hz.out (Nat.le_refl _) hb
      clear hb c0 c1 c2 c3 c4 c5 c6 c7 c8 c10 c11
      have b1c0 := B1.cell 0
      have b1c1 := B1.cell 1
      have b1c2 := B1.cell 2
      have b1c3 := B1.cell 3
      have b1c4 := B1.cell 4
      have b1c5 := B1.cell 5
      have b1f0 := B1.frozen 0
      have b1f1 := B1.frozen 1
      have b1f2 := B1.frozen 2
      have b1f3 := B1.frozen 3
      have b1f4 := B1.frozen 4
      have b1f5 := B1.frozen 5
      replace B1 := Lib.hid B1
      replace hb1 := Lib.hid hb1
      go_wp2_with fail
      refine gen_world (α := fun W' => bodyPost _ _ _ _ _ W') (fun W' => Blk W' w.heap.size 31 #[.int .i64 xk, .int .u64 xb, .int .i64 xc, .int .u64 xo, .int .u64 xn, .string xt] ∧ Below w.heap.size w W') ⟨Blk.eq_cs ((((((B1.out.set_ 0 _).set_ 1 _).set_ 2 _).set_ 3 _).set_ 4 _).set_ 5 _) rfl, ?_⟩ ?_
      · repeat (refine Below.setCell ?_ (by exact Nat.le_refl _) _)
        exact hb1.out
      rintro W' ⟨g1, g2⟩
      have e0 := g1.cell 0
      have e1 := g1.cell 1
      have e2 := g1.cell 2
      have e3 := g1.cell 3
      have e4 := g1.cell 4
      have e5 := g1.cell 5
      exact bodyPost_ret (v := .tuple #[.agg #[.int .i64 xk, .int .u64 xb, .int .i64 xc, .int .u64 xo, .int .u64 xn, .string xt], .bool mo]) (by simp [results, Try.results36, go_sem, e0, e1, e2, e3, e4, e5]) rfl ⟨rfl, g2⟩
  · simp (config := { decide := true }) only [if_true, if_false]
    have hP := fun W => handPut_any cfg hr ticket record htk W
    generalize ringAt cfg ticket = ra at *
    rw [show cfg.val = .agg #[.int .i64 cfg.cap, .int .i64 cfg.pins, .int .i64 cfg.shelves, .int .i64 cfg.queue, .int .i64 cfg.watchers, .int .u64 cfg.seed] from rfl] at hP
    exact handAct3_any hBc.out hP
  · simp (config := { decide := true }) only [if_false]
    change Calls Try.prog _ _ _ (fun e w' => e = .returned (.tuple #[.agg #[.int .i64 0, .int .u64 0, .int .i64 0, .int .u64 0, .int .u64 0, .string ⟨#[]⟩], .bool false]) ∧ _)
    replace hRA2 := Lib.hid hRA2
    as_aux_lemma =>
      go_enter Try.func36, Try.ntmps36
      go_wp2_with fail
      refine (handNone_any _).mono ?_; rintro e w1 ⟨rfl, hb⟩
      have B1 := B0.out.below hb B0.out.lt
      have hb1 := nx hz.out (Nat.le_refl _) hb
      clear hb c0 c1 c2 c3 c4 c5 c6 c7 c8 c10 c11
      have b1c0 := B1.cell 0
      have b1c1 := B1.cell 1
      have b1c2 := B1.cell 2
      have b1c3 := B1.cell 3
      have b1c4 := B1.cell 4
      have b1c5 := B1.cell 5
      have b1f0 := B1.frozen 0
      have b1f1 := B1.frozen 1
      have b1f2 := B1.frozen 2
      have b1f3 := B1.frozen 3
      have b1f4 := B1.frozen 4
      have b1f5 := B1.frozen 5
      replace B1 := Lib.hid B1
      replace hb1 := Lib.hid hb1
      go_wp2_with fail
      refine gen_world (α := fun W' => bodyPost _ _ _ _ _ W') (fun W' => Blk W' w.heap.size 31 #[.int .i64 0, .int .u64 0, .int .i64 0, .int .u64 0, .int .u64 0, .string ⟨#[]⟩] ∧ Below w.heap.size w W') ⟨Blk.eq_cs ((((((B1.out.set_ 0 _).set_ 1 _).set_ 2 _).set_ 3 _).set_ 4 _).set_ 5 _) rfl, ?_⟩ ?_
      · repeat (refine Below.setCell ?_ (by exact Nat.le_refl _) _)
        exact hb1.out
      rintro W' ⟨g1, g2⟩
      have e0 := g1.cell 0
      have e1 := g1.cell 1
      have e2 := g1.cell 2
      have e3 := g1.cell 3
      have e4 := g1.cell 4
      have e5 := g1.cell 5
      exact bodyPost_ret (v := .tuple #[.agg #[.int .i64 0, .int .u64 0, .int .i64 0, .int .u64 0, .int .u64 0, .string ⟨#[]⟩], .bool false]) (by simp [results, Try.results36, go_sem, e0, e1, e2, e3, e4, e5]) rfl ⟨rfl, g2⟩
end Go.Proofs.Ytfelkkbgbgnpaaa
