import Derived.Test.YtfelkkbgbgnpaaaHandA
/-
  What handing in takes while it reserves (layer 29): it goes on. No condition.
-/
namespace Go.Proofs.Ytfelkkbgbgnpaaa
set_option linter.unusedVariables false
open Go.ChangeShapes Go.WideShapes Go.ChangeAt Go.RowKit
open Go.ChangeMaps (setBlock)

set_option maxRecDepth 100000 in
set_option maxHeartbeats 4000000 in
theorem handTakeU_any {w : World} {b rb : Nat} {cfg : PCfg} {text : ByteArray} {full : Bool} {ticket record : Int} {res : PRes} {gw : Int} {gt : ByteArray} (hBc : Blk w b 165 #[.int .i64 cfg.cap, .int .i64 cfg.pins, .int .i64 cfg.shelves, .int .i64 cfg.queue, .int .i64 cfg.watchers, .int .u64 cfg.seed, .string text, .int .i64 2, .pointer (some ⟨rb, 0, none⟩), .bool full, .int .i64 ticket, .int .u64 record]) (hne : rb ≠ b) (hres : ResIn w rb res) (hg : PGot.Ok ⟨gw, gt⟩) (ho : (res.take ⟨gw, gt⟩).over = false) :
    Calls Try.prog 39 #[.pointer (some ⟨b, 0, none⟩), .agg #[.int .u64 gw, .string gt]] w fun e w' => e = .returned (.tuple #[]) ∧ Blk w' b 165 #[.int .i64 cfg.cap, .int .i64 cfg.pins, .int .i64 cfg.shelves, .int .i64 cfg.queue, .int .i64 cfg.watchers, .int .u64 cfg.seed, .string text, .int .i64 2, .pointer (some ⟨rb, 0, none⟩), .bool full, .int .i64 ticket, .int .u64 record] ∧ Chg (fun k => k = rb ∨ k = b) w w' ∧ ResIn w' rb (res.take ⟨gw, gt⟩) := by
  have hz : Below w.heap.size w (w.alloc (.cells #[.int .u64 gw, .string gt] 53)) := (Below.refl _ _).alloc (Nat.le_refl _) _
  have hRT := resTake_any (w := (w.alloc (.cells #[.int .u64 gw, .string gt] 53)).drew) ((hres.below hz).keep rfl) ⟨gw, gt⟩ hg
  rw [show PGot.val ⟨gw, gt⟩ = .agg #[.int .u64 gw, .string gt] from rfl] at hRT
  generalize res.take ⟨gw, gt⟩ = r at *
  have hres' : r.result = ((false, 0), false) := by simp [PRes.result, ho]
  have c7 := hBc.cell 7
  have c8 := hBc.cell 8
  have hlt := hBc.lt
  have hne' : ¬ b = rb := fun e => hne e.symm
  replace hBc := Lib.hid hBc
  replace hz := Lib.hid hz
  replace hres := Lib.hid hres
  replace hRT := Lib.hid hRT
  replace hres' := Lib.hid hres'
  replace hg := Lib.hid hg
  replace ho := Lib.hid ho
  go_enter Try.func39, Try.ntmps39
  go_wp2_with fail
  go_region_with (go_at_call 96; refine (hRT.out).mono ?_; rintro e w1 ⟨rfl, h1, h2⟩; have hBw := Blk.keep (hBc.out.alloc (.cells #[.int .u64 gw, .string gt] 53)).drew (h2.block b (by simp; omega) hne'); have hC1 : Chg (fun k => k = rb) w w1 := (Chg.of_below hz.out.drew _).trans h2 (fun i hi => Or.inl hi); have hs1 := hC1.size; have v8 := hBw.cell 8; have v7 := hBw.cell 7; have hlt1 := hBw.lt; have hRs := resResult_any h1; clear h2; replace h1 := Lib.hid h1; replace hBw := Lib.hid hBw; replace hC1 := Lib.hid hC1; replace hRs := Lib.hid hRs)
  all_goals
    clear c7 c8
    go_wp2_with fail
    have hRs1 := hRs.out
    rw [hres'.out] at hRs1
    refine (hRs1).mono ?_; rintro e w2 ⟨rfl, hb2⟩
    clear hRs1
    have hB2 := (hBw.out.below hb2 hlt1).alloc (.cells #[.bool false, .int .i64 0] 173)
    have hR2 := (h1.out.below hb2).below (Below.more_ (Below.refl _ _) (.cells #[.bool false, .int .i64 0] 173))
    have hC2 : Chg (fun k => k = rb) w (w2.alloc (.cells #[.bool false, .int .i64 0] 173)) := (hC1.out.next_ hb2).alloc _
    have x7 := hB2.cell 7
    have x9 := hB2.cell 9
    have x10 := hB2.cell 10
    have y7 := hB2.frozen 7
    have y9 := hB2.frozen 9
    have y10 := hB2.frozen 10
    have hs2 := hb2.size
    clear v8 v7 hb2
    replace hB2 := Lib.hid hB2
    replace hR2 := Lib.hid hR2
    replace hC2 := Lib.hid hC2
    have hne1 : ¬ w2.heap.size = b := by omega
    have hne2 : ¬ b = w2.heap.size := by omega
    go_wp2_with fail
    refine gen_world (α := fun W' => bodyPost _ _ _ _ _ W') (fun W' => Blk W' b 165 #[.int .i64 cfg.cap, .int .i64 cfg.pins, .int .i64 cfg.shelves, .int .i64 cfg.queue, .int .i64 cfg.watchers, .int .u64 cfg.seed, .string text, .int .i64 2, .pointer (some ⟨rb, 0, none⟩), .bool full, .int .i64 ticket, .int .u64 record] ∧ Chg (fun k => k = rb ∨ k = b) w W' ∧ ResIn W' rb r) ⟨?_, ?_, ?_⟩ ?_
    · exact hB2.out
    · exact hC2.out.mono (fun i hi => Or.inl hi)
    · exact hR2.out
    rintro W' ⟨g1, g2, g3⟩
    exact bodyPost_end (v := .tuple #[]) (results_none (by kernel_rfl) _ _ _) rfl ⟨rfl, g1, g2, g3⟩
end Go.Proofs.Ytfelkkbgbgnpaaa

/-
  What handing in takes while it reserves (layer 29): there is no room. No condition.
-/
namespace Go.Proofs.Ytfelkkbgbgnpaaa
set_option linter.unusedVariables false
open Go.ChangeShapes Go.WideShapes Go.ChangeAt Go.RowKit
open Go.ChangeMaps (setBlock)

set_option maxRecDepth 100000 in
set_option maxHeartbeats 4000000 in
theorem handTakeV_any {w : World} {b rb : Nat} {cfg : PCfg} {text : ByteArray} {full : Bool} {ticket record : Int} {res : PRes} {gw : Int} {gt : ByteArray} (hBc : Blk w b 165 #[.int .i64 cfg.cap, .int .i64 cfg.pins, .int .i64 cfg.shelves, .int .i64 cfg.queue, .int .i64 cfg.watchers, .int .u64 cfg.seed, .string text, .int .i64 2, .pointer (some ⟨rb, 0, none⟩), .bool full, .int .i64 ticket, .int .u64 record]) (hne : rb ≠ b) (hres : ResIn w rb res) (hg : PGot.Ok ⟨gw, gt⟩) (ho : (res.take ⟨gw, gt⟩).over = true) (hf : (res.take ⟨gw, gt⟩).full = true) :
    Calls Try.prog 39 #[.pointer (some ⟨b, 0, none⟩), .agg #[.int .u64 gw, .string gt]] w fun e w' => e = .returned (.tuple #[]) ∧ Blk w' b 165 #[.int .i64 cfg.cap, .int .i64 cfg.pins, .int .i64 cfg.shelves, .int .i64 cfg.queue, .int .i64 cfg.watchers, .int .u64 cfg.seed, .string text, .int .i64 4, .pointer (some ⟨rb, 0, none⟩), .bool true, .int .i64 ticket, .int .u64 record] ∧ Chg (fun k => k = rb ∨ k = b) w w' ∧ ResIn w' rb (res.take ⟨gw, gt⟩) := by
  have hz : Below w.heap.size w (w.alloc (.cells #[.int .u64 gw, .string gt] 53)) := (Below.refl _ _).alloc (Nat.le_refl _) _
  have hRT := resTake_any (w := (w.alloc (.cells #[.int .u64 gw, .string gt] 53)).drew) ((hres.below hz).keep rfl) ⟨gw, gt⟩ hg
  rw [show PGot.val ⟨gw, gt⟩ = .agg #[.int .u64 gw, .string gt] from rfl] at hRT
  generalize res.take ⟨gw, gt⟩ = r at *
  have hres' : r.result = ((true, r.ticket), true) := by simp [PRes.result, ho, hf]
  have c7 := hBc.cell 7
  have c8 := hBc.cell 8
  have hlt := hBc.lt
  have hne' : ¬ b = rb := fun e => hne e.symm
  replace hBc := Lib.hid hBc
  replace hz := Lib.hid hz
  replace hres := Lib.hid hres
  replace hRT := Lib.hid hRT
  replace hres' := Lib.hid hres'
  replace hg := Lib.hid hg
  replace ho := Lib.hid ho
  go_enter Try.func39, Try.ntmps39
  go_wp2_with fail
  go_region_with (go_at_call 96; refine (hRT.out).mono ?_; rintro e w1 ⟨rfl, h1, h2⟩; have hBw := Blk.keep (hBc.out.alloc (.cells #[.int .u64 gw, .string gt] 53)).drew (h2.block b (by simp; omega) hne'); have hC1 : Chg (fun k => k = rb) w w1 := (Chg.of_below hz.out.drew _).trans h2 (fun i hi => Or.inl hi); have hs1 := hC1.size; have v8 := hBw.cell 8; have v7 := hBw.cell 7; have hlt1 := hBw.lt; have hRs := resResult_any h1; clear h2; replace h1 := Lib.hid h1; replace hBw := Lib.hid hBw; replace hC1 := Lib.hid hC1; replace hRs := Lib.hid hRs)
  all_goals
    clear c7 c8
    go_wp2_with fail
    have hRs1 := hRs.out
    rw [hres'.out] at hRs1
    refine (hRs1).mono ?_; rintro e w2 ⟨rfl, hb2⟩
    clear hRs1
    have hB2 := (hBw.out.below hb2 hlt1).alloc (.cells #[.bool true, .int .i64 r.ticket] 173)
    have hR2 := (h1.out.below hb2).below (Below.more_ (Below.refl _ _) (.cells #[.bool true, .int .i64 r.ticket] 173))
    have hC2 : Chg (fun k => k = rb) w (w2.alloc (.cells #[.bool true, .int .i64 r.ticket] 173)) := (hC1.out.next_ hb2).alloc _
    have x7 := hB2.cell 7
    have x9 := hB2.cell 9
    have x10 := hB2.cell 10
    have y7 := hB2.frozen 7
    have y9 := hB2.frozen 9
    have y10 := hB2.frozen 10
    have hs2 := hb2.size
    clear v8 v7 hb2
    replace hB2 := Lib.hid hB2
    replace hR2 := Lib.hid hR2
    replace hC2 := Lib.hid hC2
    have hne1 : ¬ w2.heap.size = b := by omega
    have hne2 : ¬ b = w2.heap.size := by omega
    go_wp2_with fail
    refine gen_world (α := fun W' => bodyPost _ _ _ _ _ W') (fun W' => Blk W' b 165 #[.int .i64 cfg.cap, .int .i64 cfg.pins, .int .i64 cfg.shelves, .int .i64 cfg.queue, .int .i64 cfg.watchers, .int .u64 cfg.seed, .string text, .int .i64 4, .pointer (some ⟨rb, 0, none⟩), .bool true, .int .i64 ticket, .int .u64 record] ∧ Chg (fun k => k = rb ∨ k = b) w W' ∧ ResIn W' rb r) ⟨?_, ?_, ?_⟩ ?_
    · exact Blk.eq_cs ((hB2.out.set_ 9 _).set_ 7 _) rfl
    · refine Chg.setCell (Chg.setCell (hC2.out.mono (fun i hi => Or.inl hi)) ?_ _) ?_ _ <;> exact Or.inl (Or.inr rfl)
    · exact ((hR2.out).keep (Below.heap_setCell _ _ _ rb hne)).keep (Below.heap_setCell _ _ _ rb hne)
    rintro W' ⟨g1, g2, g3⟩
    exact bodyPost_end (v := .tuple #[]) (results_none (by kernel_rfl) _ _ _) rfl ⟨rfl, g1, g2, g3⟩
end Go.Proofs.Ytfelkkbgbgnpaaa

/-
  What handing in takes while it reserves (layer 29): it has a ticket. No condition.
-/
namespace Go.Proofs.Ytfelkkbgbgnpaaa
set_option linter.unusedVariables false
open Go.ChangeShapes Go.WideShapes Go.ChangeAt Go.RowKit
open Go.ChangeMaps (setBlock)

set_option maxRecDepth 100000 in
set_option maxHeartbeats 4000000 in
theorem handTakeW_any {w : World} {b rb : Nat} {cfg : PCfg} {text : ByteArray} {full : Bool} {ticket record : Int} {res : PRes} {gw : Int} {gt : ByteArray} (hBc : Blk w b 165 #[.int .i64 cfg.cap, .int .i64 cfg.pins, .int .i64 cfg.shelves, .int .i64 cfg.queue, .int .i64 cfg.watchers, .int .u64 cfg.seed, .string text, .int .i64 2, .pointer (some ⟨rb, 0, none⟩), .bool full, .int .i64 ticket, .int .u64 record]) (hne : rb ≠ b) (hres : ResIn w rb res) (hg : PGot.Ok ⟨gw, gt⟩) (ho : (res.take ⟨gw, gt⟩).over = true) (hf : (res.take ⟨gw, gt⟩).full = false) :
    Calls Try.prog 39 #[.pointer (some ⟨b, 0, none⟩), .agg #[.int .u64 gw, .string gt]] w fun e w' => e = .returned (.tuple #[]) ∧ Blk w' b 165 #[.int .i64 cfg.cap, .int .i64 cfg.pins, .int .i64 cfg.shelves, .int .i64 cfg.queue, .int .i64 cfg.watchers, .int .u64 cfg.seed, .string text, .int .i64 3, .pointer (some ⟨rb, 0, none⟩), .bool full, .int .i64 (res.take ⟨gw, gt⟩).ticket, .int .u64 record] ∧ Chg (fun k => k = rb ∨ k = b) w w' ∧ ResIn w' rb (res.take ⟨gw, gt⟩) := by
  have hz : Below w.heap.size w (w.alloc (.cells #[.int .u64 gw, .string gt] 53)) := (Below.refl _ _).alloc (Nat.le_refl _) _
  have hRT := resTake_any (w := (w.alloc (.cells #[.int .u64 gw, .string gt] 53)).drew) ((hres.below hz).keep rfl) ⟨gw, gt⟩ hg
  rw [show PGot.val ⟨gw, gt⟩ = .agg #[.int .u64 gw, .string gt] from rfl] at hRT
  generalize res.take ⟨gw, gt⟩ = r at *
  have hres' : r.result = ((false, r.ticket), true) := by simp [PRes.result, ho, hf]
  have c7 := hBc.cell 7
  have c8 := hBc.cell 8
  have hlt := hBc.lt
  have hne' : ¬ b = rb := fun e => hne e.symm
  replace hBc := Lib.hid hBc
  replace hz := Lib.hid hz
  replace hres := Lib.hid hres
  replace hRT := Lib.hid hRT
  replace hres' := Lib.hid hres'
  replace hg := Lib.hid hg
  replace ho := Lib.hid ho
  go_enter Try.func39, Try.ntmps39
  go_wp2_with fail
  go_region_with (go_at_call 96; refine (hRT.out).mono ?_; rintro e w1 ⟨rfl, h1, h2⟩; have hBw := Blk.keep (hBc.out.alloc (.cells #[.int .u64 gw, .string gt] 53)).drew (h2.block b (by simp; omega) hne'); have hC1 : Chg (fun k => k = rb) w w1 := (Chg.of_below hz.out.drew _).trans h2 (fun i hi => Or.inl hi); have hs1 := hC1.size; have v8 := hBw.cell 8; have v7 := hBw.cell 7; have hlt1 := hBw.lt; have hRs := resResult_any h1; clear h2; replace h1 := Lib.hid h1; replace hBw := Lib.hid hBw; replace hC1 := Lib.hid hC1; replace hRs := Lib.hid hRs)
  all_goals
    clear c7 c8
    go_wp2_with fail
    have hRs1 := hRs.out
    rw [hres'.out] at hRs1
    refine (hRs1).mono ?_; rintro e w2 ⟨rfl, hb2⟩
    clear hRs1
    have hB2 := (hBw.out.below hb2 hlt1).alloc (.cells #[.bool false, .int .i64 r.ticket] 173)
    have hR2 := (h1.out.below hb2).below (Below.more_ (Below.refl _ _) (.cells #[.bool false, .int .i64 r.ticket] 173))
    have hC2 : Chg (fun k => k = rb) w (w2.alloc (.cells #[.bool false, .int .i64 r.ticket] 173)) := (hC1.out.next_ hb2).alloc _
    have x7 := hB2.cell 7
    have x9 := hB2.cell 9
    have x10 := hB2.cell 10
    have y7 := hB2.frozen 7
    have y9 := hB2.frozen 9
    have y10 := hB2.frozen 10
    have hs2 := hb2.size
    clear v8 v7 hb2
    replace hB2 := Lib.hid hB2
    replace hR2 := Lib.hid hR2
    replace hC2 := Lib.hid hC2
    have hne1 : ¬ w2.heap.size = b := by omega
    have hne2 : ¬ b = w2.heap.size := by omega
    go_wp2_with fail
    refine gen_world (α := fun W' => bodyPost _ _ _ _ _ W') (fun W' => Blk W' b 165 #[.int .i64 cfg.cap, .int .i64 cfg.pins, .int .i64 cfg.shelves, .int .i64 cfg.queue, .int .i64 cfg.watchers, .int .u64 cfg.seed, .string text, .int .i64 3, .pointer (some ⟨rb, 0, none⟩), .bool full, .int .i64 r.ticket, .int .u64 record] ∧ Chg (fun k => k = rb ∨ k = b) w W' ∧ ResIn W' rb r) ⟨?_, ?_, ?_⟩ ?_
    · exact Blk.eq_cs ((hB2.out.set_ 10 _).set_ 7 _) rfl
    · refine Chg.setCell (Chg.setCell (hC2.out.mono (fun i hi => Or.inl hi)) ?_ _) ?_ _ <;> exact Or.inl (Or.inr rfl)
    · exact ((hR2.out).keep (Below.heap_setCell _ _ _ rb hne)).keep (Below.heap_setCell _ _ _ rb hne)
    rintro W' ⟨g1, g2, g3⟩
    exact bodyPost_end (v := .tuple #[]) (results_none (by kernel_rfl) _ _ _) rfl ⟨rfl, g1, g2, g3⟩
end Go.Proofs.Ytfelkkbgbgnpaaa
