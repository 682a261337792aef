import Derived.Test.YtmlnhjfdhjachaaGreatReadU
/-
  What reading takes (layer 26), part by part. No condition.
-/
namespace Go.Proofs.YtmlnhjfdhjachaaGreat
set_option linter.unusedVariables false
open Go.ChangeShapes Go.WideShapes Go.ChangeAt Go.RowKit
open Go.ChangeMaps (setBlock)

set_option maxRecDepth 100000 in
set_option maxHeartbeats 2000000 in
theorem readTake1_any {w : World} {b : Nat} {c : PCfg} {key : ByteArray} {acts pp pe code mark : Int} {pt took : Bool} {value : ByteArray} {fv cv : Value} {rb : Nat} {gw : Int} {gt : ByteArray} (hBc : Blk w b 128 #[.int .i64 c.cap, .int .i64 c.pins, .int .i64 c.shelves, .int .i64 c.queue, .int .i64 c.watchers, .int .u64 c.seed, .string key, .int .i64 1, .int .i64 acts, .pointer (some ⟨rb, 0, none⟩), .int .i64 pp, .int .u64 pe, .bool pt, fv, cv, .int .i64 code, .int .i64 0, .int .i64 0, .bool took, .string value, .slice none 0 0, .int .i64 0, .slice none 0 0, .int .i64 mark, .int .u64 0]) (hne : rb ≠ b) (hrb : rb < w.heap.size) {P : World → Prop} {Post : World → World → Prop}
    (hT : ∀ W : World, W.heap[rb]? = w.heap[rb]? → Calls Tryz.prog 49 #[.pointer (some ⟨rb, 0, none⟩), .agg #[.int .u64 gw, .string gt]] W fun e w' => e = .returned (.tuple #[]) ∧ P w' ∧ Chg (fun k => k = rb) W w')
    (hS : ∀ W : World, Blk W b 128 #[.int .i64 c.cap, .int .i64 c.pins, .int .i64 c.shelves, .int .i64 c.queue, .int .i64 c.watchers, .int .u64 c.seed, .string key, .int .i64 1, .int .i64 (IntKind.i64.wrap (acts + 1)), .pointer (some ⟨rb, 0, none⟩), .int .i64 pp, .int .u64 pe, .bool pt, fv, cv, .int .i64 code, .int .i64 0, .int .i64 0, .bool took, .string value, .slice none 0 0, .int .i64 0, .slice none 0 0, .int .i64 mark, .int .u64 0] → P W → Calls Tryz.prog 161 #[.pointer (some ⟨b, 0, none⟩)] W fun e w' => e = .returned (.tuple #[]) ∧ Post W w') :
    Calls Tryz.prog 160 #[.pointer (some ⟨b, 0, none⟩), .agg #[.int .u64 gw, .string gt]] w fun e w' => e = .returned (.tuple #[]) ∧ ∃ W, P W ∧ Blk W b 128 #[.int .i64 c.cap, .int .i64 c.pins, .int .i64 c.shelves, .int .i64 c.queue, .int .i64 c.watchers, .int .u64 c.seed, .string key, .int .i64 1, .int .i64 (IntKind.i64.wrap (acts + 1)), .pointer (some ⟨rb, 0, none⟩), .int .i64 pp, .int .u64 pe, .bool pt, fv, cv, .int .i64 code, .int .i64 0, .int .i64 0, .bool took, .string value, .slice none 0 0, .int .i64 0, .slice none 0 0, .int .i64 mark, .int .u64 0] ∧ Chg (fun k => k = rb ∨ k = b) w W ∧ Post W w' := by
  have hlt := hBc.lt
  have hne1 : ¬ rb = b := hne
  have hne2 : ¬ b = rb := fun e => hne e.symm
  generalize hac : IntKind.i64.wrap (acts + 1) = ac at *
  have hac2 : wrap64 (acts + 1) = ac := by rw [← IntWalk.i64_left]; exact hac
  have c7 := hBc.cell 7
  have c8 := hBc.cell 8
  have c9 := hBc.cell 9
  have f8 := hBc.frozen 8
  replace hBc := Lib.hid hBc
  replace hac := Lib.hid hac
  replace hT := Lib.hid hT
  replace hS := Lib.hid hS
  replace hne := Lib.hid hne
  go_enter Tryz.func160, Tryz.ntmps160
  go_wp2_with fail
  refine gen_world (α := fun W' => _) (fun W' => Blk W' b 128 #[.int .i64 c.cap, .int .i64 c.pins, .int .i64 c.shelves, .int .i64 c.queue, .int .i64 c.watchers, .int .u64 c.seed, .string key, .int .i64 1, .int .i64 ac, .pointer (some ⟨rb, 0, none⟩), .int .i64 pp, .int .u64 pe, .bool pt, fv, cv, .int .i64 code, .int .i64 0, .int .i64 0, .bool took, .string value, .slice none 0 0, .int .i64 0, .slice none 0 0, .int .i64 mark, .int .u64 0] ∧ Blk W' w.heap.size 52 #[.int .u64 gw, .string gt] ∧ Chg (fun k => k = b) w W') ⟨?_, ?_, ?_⟩ ?_
  · refine Blk.eq_cs (cs := ((#[.int .i64 c.cap, .int .i64 c.pins, .int .i64 c.shelves, .int .i64 c.queue, .int .i64 c.watchers, .int .u64 c.seed, .string key, .int .i64 1, .int .i64 acts, .pointer (some ⟨rb, 0, none⟩), .int .i64 pp, .int .u64 pe, .bool pt, fv, cv, .int .i64 code, .int .i64 0, .int .i64 0, .bool took, .string value, .slice none 0 0, .int .i64 0, .slice none 0 0, .int .i64 mark, .int .u64 0] : Array Value).setIfInBounds 8 (.int .i64 ac))) ?_ rfl
    have hB := hBc.out
    (repeat first | with_reducible exact hB | with_reducible refine Blk.drewN ?_ _ | with_reducible refine Blk.drew ?_ | with_reducible refine Blk.alloc ?_ _ | with_reducible refine Blk.set_ ?_ _ _ | refine Blk.far ?_ (by simp; omega) _)
  · have hN0 := Blk.new (w.setCell ⟨b, 8, none⟩ (.int .i64 ac)) 52 #[.int .u64 gw, .string gt]
    rw [size_setCell] at hN0
    exact hN0
  · have hC := Chg.refl (fun k => k = b) w
    repeat first | with_reducible exact hC | with_reducible refine Chg.drew ?_ | with_reducible refine Chg.drewN ?_ _ | with_reducible refine Chg.alloc ?_ _ | refine Chg.setCell ?_ (by left; rfl) _
  rintro W' ⟨g1, g0, g2⟩
  have hs := g2.size
  have hltw := g1.lt
  have u0 := g0.cell 0
  have u1 := g0.cell 1
  have hltk := g0.lt
  have v7 := g1.cell 7
  have v9 := g1.cell 9
  have hTw := hT.out W'.drew (g2.block rb hrb hne1)
  clear c7 c8 c9 f8
  replace g1 := Lib.hid g1
  replace g2 := Lib.hid g2
  replace g0 := Lib.hid g0
  replace hTw := Lib.hid hTw
  go_wp2_with fail
  go_region_with (go_at_call 49; refine (hTw.out).mono ?_; rintro x w2 ⟨rfl, hp, hC2⟩; have hBw := Blk.keep (w := W') (w' := w2) g1.out (hC2.block b hltw hne2); have hC3 : Chg (fun k => k = rb ∨ k = b) w w2 := (g2.out.drew.mono (fun i hi => Or.inr hi)).trans hC2 (fun i hi => Or.inl (Or.inl hi)); have hSw := hS.out w2 hBw hp; clear hC2; replace hBw := Lib.hid hBw; replace hC3 := Lib.hid hC3; replace hSw := Lib.hid hSw; replace hp := Lib.hid hp)
  all_goals
    go_wp2_with fail
    refine (hSw.out).mono ?_; rintro x w3 ⟨rfl, hq⟩
    replace hq := Lib.hid hq
    go_wp2_with fail
    first | exact bodyPost_end (v := .tuple #[]) (results_none (by kernel_rfl) _ _ _) rfl ⟨rfl, w2, hp.out, hBw.out, hC3.out, hq.out⟩ | exact bodyPost_ret (v := .tuple #[]) (results_none (by kernel_rfl) _ _ _) rfl ⟨rfl, w2, hp.out, hBw.out, hC3.out, hq.out⟩
set_option maxRecDepth 100000 in
set_option maxHeartbeats 2000000 in
theorem readTake2_any {w : World} {b : Nat} {c : PCfg} {key : ByteArray} {acts pp pe code mark : Int} {pt took : Bool} {value : ByteArray} {pv cv : Value} {rb : Nat} {gw : Int} {gt : ByteArray} (hBc : Blk w b 128 #[.int .i64 c.cap, .int .i64 c.pins, .int .i64 c.shelves, .int .i64 c.queue, .int .i64 c.watchers, .int .u64 c.seed, .string key, .int .i64 2, .int .i64 acts, pv, .int .i64 pp, .int .u64 pe, .bool pt, .pointer (some ⟨rb, 0, none⟩), cv, .int .i64 code, .int .i64 0, .int .i64 0, .bool took, .string value, .slice none 0 0, .int .i64 0, .slice none 0 0, .int .i64 mark, .int .u64 0]) (hne : rb ≠ b) (hrb : rb < w.heap.size) {P : World → Prop} {Post : World → World → Prop}
    (hT : ∀ W : World, W.heap[rb]? = w.heap[rb]? → Calls Tryz.prog 162 #[.pointer (some ⟨rb, 0, none⟩), .agg #[.int .u64 gw, .string gt]] W fun e w' => e = .returned (.tuple #[]) ∧ P w' ∧ Chg (fun k => k = rb) W w')
    (hS : ∀ W : World, Blk W b 128 #[.int .i64 c.cap, .int .i64 c.pins, .int .i64 c.shelves, .int .i64 c.queue, .int .i64 c.watchers, .int .u64 c.seed, .string key, .int .i64 2, .int .i64 (IntKind.i64.wrap (acts + 1)), pv, .int .i64 pp, .int .u64 pe, .bool pt, .pointer (some ⟨rb, 0, none⟩), cv, .int .i64 code, .int .i64 0, .int .i64 0, .bool took, .string value, .slice none 0 0, .int .i64 0, .slice none 0 0, .int .i64 mark, .int .u64 0] → P W → Calls Tryz.prog 161 #[.pointer (some ⟨b, 0, none⟩)] W fun e w' => e = .returned (.tuple #[]) ∧ Post W w') :
    Calls Tryz.prog 160 #[.pointer (some ⟨b, 0, none⟩), .agg #[.int .u64 gw, .string gt]] w fun e w' => e = .returned (.tuple #[]) ∧ ∃ W, P W ∧ Blk W b 128 #[.int .i64 c.cap, .int .i64 c.pins, .int .i64 c.shelves, .int .i64 c.queue, .int .i64 c.watchers, .int .u64 c.seed, .string key, .int .i64 2, .int .i64 (IntKind.i64.wrap (acts + 1)), pv, .int .i64 pp, .int .u64 pe, .bool pt, .pointer (some ⟨rb, 0, none⟩), cv, .int .i64 code, .int .i64 0, .int .i64 0, .bool took, .string value, .slice none 0 0, .int .i64 0, .slice none 0 0, .int .i64 mark, .int .u64 0] ∧ Chg (fun k => k = rb ∨ k = b) w W ∧ Post W w' := by
  have hlt := hBc.lt
  have hne1 : ¬ rb = b := hne
  have hne2 : ¬ b = rb := fun e => hne e.symm
  generalize hac : IntKind.i64.wrap (acts + 1) = ac at *
  have hac2 : wrap64 (acts + 1) = ac := by rw [← IntWalk.i64_left]; exact hac
  have c7 := hBc.cell 7
  have c8 := hBc.cell 8
  have c13 := hBc.cell 13
  have f8 := hBc.frozen 8
  replace hBc := Lib.hid hBc
  replace hac := Lib.hid hac
  replace hT := Lib.hid hT
  replace hS := Lib.hid hS
  replace hne := Lib.hid hne
  go_enter Tryz.func160, Tryz.ntmps160
  go_wp2_with fail
  refine gen_world (α := fun W' => _) (fun W' => Blk W' b 128 #[.int .i64 c.cap, .int .i64 c.pins, .int .i64 c.shelves, .int .i64 c.queue, .int .i64 c.watchers, .int .u64 c.seed, .string key, .int .i64 2, .int .i64 ac, pv, .int .i64 pp, .int .u64 pe, .bool pt, .pointer (some ⟨rb, 0, none⟩), cv, .int .i64 code, .int .i64 0, .int .i64 0, .bool took, .string value, .slice none 0 0, .int .i64 0, .slice none 0 0, .int .i64 mark, .int .u64 0] ∧ Blk W' w.heap.size 52 #[.int .u64 gw, .string gt] ∧ Chg (fun k => k = b) w W') ⟨?_, ?_, ?_⟩ ?_
  · refine Blk.eq_cs (cs := ((#[.int .i64 c.cap, .int .i64 c.pins, .int .i64 c.shelves, .int .i64 c.queue, .int .i64 c.watchers, .int .u64 c.seed, .string key, .int .i64 2, .int .i64 acts, pv, .int .i64 pp, .int .u64 pe, .bool pt, .pointer (some ⟨rb, 0, none⟩), cv, .int .i64 code, .int .i64 0, .int .i64 0, .bool took, .string value, .slice none 0 0, .int .i64 0, .slice none 0 0, .int .i64 mark, .int .u64 0] : Array Value).setIfInBounds 8 (.int .i64 ac))) ?_ rfl
    have hB := hBc.out
    (repeat first | with_reducible exact hB | with_reducible refine Blk.drewN ?_ _ | with_reducible refine Blk.drew ?_ | with_reducible refine Blk.alloc ?_ _ | with_reducible refine Blk.set_ ?_ _ _ | refine Blk.far ?_ (by simp; omega) _)
  · have hN0 := Blk.new (w.setCell ⟨b, 8, none⟩ (.int .i64 ac)) 52 #[.int .u64 gw, .string gt]
    rw [size_setCell] at hN0
    exact hN0
  · have hC := Chg.refl (fun k => k = b) w
    repeat first | with_reducible exact hC | with_reducible refine Chg.drew ?_ | with_reducible refine Chg.drewN ?_ _ | with_reducible refine Chg.alloc ?_ _ | refine Chg.setCell ?_ (by left; rfl) _
  rintro W' ⟨g1, g0, g2⟩
  have hs := g2.size
  have hltw := g1.lt
  have u0 := g0.cell 0
  have u1 := g0.cell 1
  have hltk := g0.lt
  have v7 := g1.cell 7
  have v13 := g1.cell 13
  have hTw := hT.out W'.drew (g2.block rb hrb hne1)
  clear c7 c8 c13 f8
  replace g1 := Lib.hid g1
  replace g2 := Lib.hid g2
  replace g0 := Lib.hid g0
  replace hTw := Lib.hid hTw
  go_wp2_with fail
  go_region_with (go_at_call 162; refine (hTw.out).mono ?_; rintro x w2 ⟨rfl, hp, hC2⟩; have hBw := Blk.keep (w := W') (w' := w2) g1.out (hC2.block b hltw hne2); have hC3 : Chg (fun k => k = rb ∨ k = b) w w2 := (g2.out.drew.mono (fun i hi => Or.inr hi)).trans hC2 (fun i hi => Or.inl (Or.inl hi)); have hSw := hS.out w2 hBw hp; clear hC2; replace hBw := Lib.hid hBw; replace hC3 := Lib.hid hC3; replace hSw := Lib.hid hSw; replace hp := Lib.hid hp)
  all_goals
    go_wp2_with fail
    refine (hSw.out).mono ?_; rintro x w3 ⟨rfl, hq⟩
    replace hq := Lib.hid hq
    go_wp2_with fail
    first | exact bodyPost_end (v := .tuple #[]) (results_none (by kernel_rfl) _ _ _) rfl ⟨rfl, w2, hp.out, hBw.out, hC3.out, hq.out⟩ | exact bodyPost_ret (v := .tuple #[]) (results_none (by kernel_rfl) _ _ _) rfl ⟨rfl, w2, hp.out, hBw.out, hC3.out, hq.out⟩
set_option maxRecDepth 100000 in
set_option maxHeartbeats 2000000 in
theorem readTake3_any {w : World} {b : Nat} {c : PCfg} {key : ByteArray} {acts pp pe code mark : Int} {pt took : Bool} {value : ByteArray} {pv fv : Value} {rb : Nat} {gw : Int} {gt : ByteArray} (hBc : Blk w b 128 #[.int .i64 c.cap, .int .i64 c.pins, .int .i64 c.shelves, .int .i64 c.queue, .int .i64 c.watchers, .int .u64 c.seed, .string key, .int .i64 3, .int .i64 acts, pv, .int .i64 pp, .int .u64 pe, .bool pt, fv, .pointer (some ⟨rb, 0, none⟩), .int .i64 code, .int .i64 0, .int .i64 0, .bool took, .string value, .slice none 0 0, .int .i64 0, .slice none 0 0, .int .i64 mark, .int .u64 0]) (hne : rb ≠ b) (hrb : rb < w.heap.size) {P : World → Prop} {Post : World → World → Prop}
    (hT : ∀ W : World, W.heap[rb]? = w.heap[rb]? → Calls Tryz.prog 53 #[.pointer (some ⟨rb, 0, none⟩), .agg #[.int .u64 gw, .string gt]] W fun e w' => e = .returned (.tuple #[]) ∧ P w' ∧ Chg (fun k => k = rb) W w')
    (hS : ∀ W : World, Blk W b 128 #[.int .i64 c.cap, .int .i64 c.pins, .int .i64 c.shelves, .int .i64 c.queue, .int .i64 c.watchers, .int .u64 c.seed, .string key, .int .i64 3, .int .i64 (IntKind.i64.wrap (acts + 1)), pv, .int .i64 pp, .int .u64 pe, .bool pt, fv, .pointer (some ⟨rb, 0, none⟩), .int .i64 code, .int .i64 0, .int .i64 0, .bool took, .string value, .slice none 0 0, .int .i64 0, .slice none 0 0, .int .i64 mark, .int .u64 0] → P W → Calls Tryz.prog 161 #[.pointer (some ⟨b, 0, none⟩)] W fun e w' => e = .returned (.tuple #[]) ∧ Post W w') :
    Calls Tryz.prog 160 #[.pointer (some ⟨b, 0, none⟩), .agg #[.int .u64 gw, .string gt]] w fun e w' => e = .returned (.tuple #[]) ∧ ∃ W, P W ∧ Blk W b 128 #[.int .i64 c.cap, .int .i64 c.pins, .int .i64 c.shelves, .int .i64 c.queue, .int .i64 c.watchers, .int .u64 c.seed, .string key, .int .i64 3, .int .i64 (IntKind.i64.wrap (acts + 1)), pv, .int .i64 pp, .int .u64 pe, .bool pt, fv, .pointer (some ⟨rb, 0, none⟩), .int .i64 code, .int .i64 0, .int .i64 0, .bool took, .string value, .slice none 0 0, .int .i64 0, .slice none 0 0, .int .i64 mark, .int .u64 0] ∧ Chg (fun k => k = rb ∨ k = b) w W ∧ Post W w' := by
  have hlt := hBc.lt
  have hne1 : ¬ rb = b := hne
  have hne2 : ¬ b = rb := fun e => hne e.symm
  generalize hac : IntKind.i64.wrap (acts + 1) = ac at *
  have hac2 : wrap64 (acts + 1) = ac := by rw [← IntWalk.i64_left]; exact hac
  have c7 := hBc.cell 7
  have c8 := hBc.cell 8
  have c14 := hBc.cell 14
  have f8 := hBc.frozen 8
  replace hBc := Lib.hid hBc
  replace hac := Lib.hid hac
  replace hT := Lib.hid hT
  replace hS := Lib.hid hS
  replace hne := Lib.hid hne
  go_enter Tryz.func160, Tryz.ntmps160
  go_wp2_with fail
  refine gen_world (α := fun W' => _) (fun W' => Blk W' b 128 #[.int .i64 c.cap, .int .i64 c.pins, .int .i64 c.shelves, .int .i64 c.queue, .int .i64 c.watchers, .int .u64 c.seed, .string key, .int .i64 3, .int .i64 ac, pv, .int .i64 pp, .int .u64 pe, .bool pt, fv, .pointer (some ⟨rb, 0, none⟩), .int .i64 code, .int .i64 0, .int .i64 0, .bool took, .string value, .slice none 0 0, .int .i64 0, .slice none 0 0, .int .i64 mark, .int .u64 0] ∧ Blk W' w.heap.size 52 #[.int .u64 gw, .string gt] ∧ Chg (fun k => k = b) w W') ⟨?_, ?_, ?_⟩ ?_
  · refine Blk.eq_cs (cs := ((#[.int .i64 c.cap, .int .i64 c.pins, .int .i64 c.shelves, .int .i64 c.queue, .int .i64 c.watchers, .int .u64 c.seed, .string key, .int .i64 3, .int .i64 acts, pv, .int .i64 pp, .int .u64 pe, .bool pt, fv, .pointer (some ⟨rb, 0, none⟩), .int .i64 code, .int .i64 0, .int .i64 0, .bool took, .string value, .slice none 0 0, .int .i64 0, .slice none 0 0, .int .i64 mark, .int .u64 0] : Array Value).setIfInBounds 8 (.int .i64 ac))) ?_ rfl
    have hB := hBc.out
    (repeat first | with_reducible exact hB | with_reducible refine Blk.drewN ?_ _ | with_reducible refine Blk.drew ?_ | with_reducible refine Blk.alloc ?_ _ | with_reducible refine Blk.set_ ?_ _ _ | refine Blk.far ?_ (by simp; omega) _)
  · have hN0 := Blk.new (w.setCell ⟨b, 8, none⟩ (.int .i64 ac)) 52 #[.int .u64 gw, .string gt]
    rw [size_setCell] at hN0
    exact hN0
  · have hC := Chg.refl (fun k => k = b) w
    repeat first | with_reducible exact hC | with_reducible refine Chg.drew ?_ | with_reducible refine Chg.drewN ?_ _ | with_reducible refine Chg.alloc ?_ _ | refine Chg.setCell ?_ (by left; rfl) _
  rintro W' ⟨g1, g0, g2⟩
  have hs := g2.size
  have hltw := g1.lt
  have u0 := g0.cell 0
  have u1 := g0.cell 1
  have hltk := g0.lt
  have v7 := g1.cell 7
  have v14 := g1.cell 14
  have hTw := hT.out W'.drew (g2.block rb hrb hne1)
  clear c7 c8 c14 f8
  replace g1 := Lib.hid g1
  replace g2 := Lib.hid g2
  replace g0 := Lib.hid g0
  replace hTw := Lib.hid hTw
  go_wp2_with fail
  go_region_with (go_at_call 53; refine (hTw.out).mono ?_; rintro x w2 ⟨rfl, hp, hC2⟩; have hBw := Blk.keep (w := W') (w' := w2) g1.out (hC2.block b hltw hne2); have hC3 : Chg (fun k => k = rb ∨ k = b) w w2 := (g2.out.drew.mono (fun i hi => Or.inr hi)).trans hC2 (fun i hi => Or.inl (Or.inl hi)); have hSw := hS.out w2 hBw hp; clear hC2; replace hBw := Lib.hid hBw; replace hC3 := Lib.hid hC3; replace hSw := Lib.hid hSw; replace hp := Lib.hid hp)
  all_goals
    go_wp2_with fail
    refine (hSw.out).mono ?_; rintro x w3 ⟨rfl, hq⟩
    replace hq := Lib.hid hq
    go_wp2_with fail
    first | exact bodyPost_end (v := .tuple #[]) (results_none (by kernel_rfl) _ _ _) rfl ⟨rfl, w2, hp.out, hBw.out, hC3.out, hq.out⟩ | exact bodyPost_ret (v := .tuple #[]) (results_none (by kernel_rfl) _ _ _) rfl ⟨rfl, w2, hp.out, hBw.out, hC3.out, hq.out⟩
set_option maxRecDepth 100000 in
set_option maxHeartbeats 2000000 in
theorem readTake4_any {w : World} {b : Nat} {c : PCfg} {key : ByteArray} {acts pp pe code mark : Int} {pt took : Bool} {value : ByteArray} {pv fv cv : Value} {gw : Int} {gt : ByteArray} (hBc : Blk w b 128 #[.int .i64 c.cap, .int .i64 c.pins, .int .i64 c.shelves, .int .i64 c.queue, .int .i64 c.watchers, .int .u64 c.seed, .string key, .int .i64 4, .int .i64 acts, pv, .int .i64 pp, .int .u64 pe, .bool pt, fv, cv, .int .i64 code, .int .i64 0, .int .i64 0, .bool took, .string value, .slice none 0 0, .int .i64 0, .slice none 0 0, .int .i64 mark, .int .u64 0]) :
    Calls Tryz.prog 160 #[.pointer (some ⟨b, 0, none⟩), .agg #[.int .u64 gw, .string gt]] w fun e w' => e = .returned (.tuple #[]) ∧ Blk w' b 128 #[.int .i64 c.cap, .int .i64 c.pins, .int .i64 c.shelves, .int .i64 c.queue, .int .i64 c.watchers, .int .u64 c.seed, .string key, .int .i64 5, .int .i64 (IntKind.i64.wrap (acts + 1)), pv, .int .i64 pp, .int .u64 pe, .bool pt, fv, cv, .int .i64 code, .int .i64 0, .int .i64 0, .bool took, .string value, .slice none 0 0, .int .i64 0, .slice none 0 0, .int .i64 mark, .int .u64 0] ∧ Chg (fun k => k = b) w w' := by
  have hlt := hBc.lt
  generalize hac : IntKind.i64.wrap (acts + 1) = ac at *
  have hac2 : wrap64 (acts + 1) = ac := by rw [← IntWalk.i64_left]; exact hac
  have c7 := hBc.cell 7
  have c8 := hBc.cell 8
  have f7 := hBc.frozen 7
  have f8 := hBc.frozen 8
  replace hBc := Lib.hid hBc
  replace hac := Lib.hid hac
  go_enter Tryz.func160, Tryz.ntmps160
  go_wp2_with (go_at_call 161; fail)
  have g1 : Blk (((w.setCell ⟨b, 8, none⟩ (.int .i64 ac)).setCell ⟨b, 7, none⟩ (.int .i64 5)).alloc (.cells #[.int .u64 gw, .string gt] 52)) b 128 #[.int .i64 c.cap, .int .i64 c.pins, .int .i64 c.shelves, .int .i64 c.queue, .int .i64 c.watchers, .int .u64 c.seed, .string key, .int .i64 5, .int .i64 ac, pv, .int .i64 pp, .int .u64 pe, .bool pt, fv, cv, .int .i64 code, .int .i64 0, .int .i64 0, .bool took, .string value, .slice none 0 0, .int .i64 0, .slice none 0 0, .int .i64 mark, .int .u64 0] := Blk.eq_cs (((hBc.out.set_ 8 _).set_ 7 _).alloc _) rfl
  have g2 : Chg (fun k => k = b) w (((w.setCell ⟨b, 8, none⟩ (.int .i64 ac)).setCell ⟨b, 7, none⟩ (.int .i64 5)).alloc (.cells #[.int .u64 gw, .string gt] 52)) := by
    refine Chg.alloc (Chg.setCell (Chg.setCell (Chg.refl _ _) ?_ _) ?_ _) _ <;> exact .inl rfl
  refine (settle5_any g1).mono ?_; rintro x w3 ⟨rfl, hb⟩
  have g3 := g1.below hb g1.lt
  have g4 := g2.next_ hb
  clear hb c7 c8 f7 f8
  replace g1 := Lib.hid g1
  replace g2 := Lib.hid g2
  replace g3 := Lib.hid g3
  replace g4 := Lib.hid g4
  go_wp2_with fail
  first | exact bodyPost_end (v := .tuple #[]) (results_none (by kernel_rfl) _ _ _) rfl ⟨rfl, g3.out, g4.out⟩ | exact bodyPost_ret (v := .tuple #[]) (results_none (by kernel_rfl) _ _ _) rfl ⟨rfl, g3.out, g4.out⟩
end Go.Proofs.YtmlnhjfdhjachaaGreat

/-
  Reading's answer; how it is made; the bound (layer 26). No condition.
-/
namespace Go.Proofs.YtmlnhjfdhjachaaGreat
set_option linter.unusedVariables false
open Go.ChangeShapes Go.WideShapes Go.ChangeAt Go.RowKit
open Go.ChangeMaps (setBlock)

set_option maxRecDepth 100000 in
set_option maxHeartbeats 2000000 in
theorem readResult_any {w : World} {b : Nat} {c : PCfg} {key : ByteArray} {part acts pp pe code mark : Int} {pt took : Bool} {value : ByteArray} {pv fv cv : Value} (hBc : Blk w b 128 #[.int .i64 c.cap, .int .i64 c.pins, .int .i64 c.shelves, .int .i64 c.queue, .int .i64 c.watchers, .int .u64 c.seed, .string key, .int .i64 part, .int .i64 acts, pv, .int .i64 pp, .int .u64 pe, .bool pt, fv, cv, .int .i64 code, .int .i64 0, .int .i64 0, .bool took, .string value, .slice none 0 0, .int .i64 0, .slice none 0 0, .int .i64 mark, .int .u64 0]) :
    Calls Tryz.prog 21 #[.pointer (some ⟨b, 0, none⟩)] w fun e w' => e = .returned (.tuple #[.agg (if part = 5 then #[.int .i64 code, .int .i64 0, .int .i64 0, .bool took, .string value, .slice none 0 0, .int .i64 0, .slice none 0 0, .int .i64 mark, .int .u64 0] else #[.int .i64 0, .int .i64 0, .int .i64 0, .bool false, .string ⟨#[]⟩, .slice none 0 0, .int .i64 0, .slice none 0 0, .int .i64 0, .int .u64 0]), .bool (decide (part = 5))]) ∧ Below w.heap.size w w' := by
  have hlt := hBc.lt
  have c7 := hBc.cell 7
  have c15 := hBc.cell 15
  have c16 := hBc.cell 16
  have c17 := hBc.cell 17
  have c18 := hBc.cell 18
  have c19 := hBc.cell 19
  have c20 := hBc.cell 20
  have c21 := hBc.cell 21
  have c22 := hBc.cell 22
  have c23 := hBc.cell 23
  have c24 := hBc.cell 24
  replace hBc := Lib.hid hBc
  by_cases hp : part = 5
  · subst hp
    simp (config := { decide := true }) only [if_true]
    go_enter Tryz.func21, Tryz.ntmps21
    go_wp2_with fail
    refine bodyPost_ret (v := .tuple #[.agg #[.int .i64 code, .int .i64 0, .int .i64 0, .bool took, .string value, .slice none 0 0, .int .i64 0, .slice none 0 0, .int .i64 mark, .int .u64 0], .bool true]) (by simp [results, Tryz.results21, go_sem]) rfl ⟨by simp, ?_⟩
    (repeat first | exact Below.refl _ _ | assumption | refine Below.drew ?_ | refine below_drewN ?_ _ | refine Below.more_ ?_ _ | refine Below.setCell ?_ (by first | exact Nat.le_refl _ | (simp; done) | (simp; omega)) _)
  · have d1 : (part == 5) = false := by simp [hp]
    simp only [hp, if_false, decide_false]
    replace hp' := Lib.hid hp
    go_enter Tryz.func21, Tryz.ntmps21
    go_wp2_with fail
    refine bodyPost_ret (v := .tuple #[.agg #[.int .i64 0, .int .i64 0, .int .i64 0, .bool false, .string ⟨#[]⟩, .slice none 0 0, .int .i64 0, .slice none 0 0, .int .i64 0, .int .u64 0], .bool false]) (by simp [results, Tryz.results21, go_sem]) rfl ⟨rfl, ?_⟩
    (repeat first | exact Below.refl _ _ | assumption | refine Below.drew ?_ | refine below_drewN ?_ _ | refine Below.more_ ?_ _ | refine Below.setCell ?_ (by first | exact Nat.le_refl _ | (simp; done) | (simp; omega)) _)
set_option maxRecDepth 100000 in
set_option maxHeartbeats 2000000 in
theorem readNewR_any (c : PCfg) (hc : c.Right) (th : Int) (hth : 0 ≤ th ∧ th ≤ 9223372036854775807) (key : ByteArray) (w : World) : Calls Tryz.prog 19 #[.agg #[.int .i64 c.cap, .int .i64 c.pins, .int .i64 c.shelves, .int .i64 c.queue, .int .i64 c.watchers, .int .u64 c.seed], .int .i64 th, .string key] w fun e w' => ∃ b rb, e = .returned (.pointer (some ⟨b, 0, none⟩)) ∧ Blk w' b 128 #[.int .i64 c.cap, .int .i64 c.pins, .int .i64 c.shelves, .int .i64 c.queue, .int .i64 c.watchers, .int .u64 c.seed, .string key, .int .i64 1, .int .i64 0, .pointer (some ⟨rb, 0, none⟩), .int .i64 0, .int .u64 0, .bool false, .pointer none, .pointer none, .int .i64 0, .int .i64 0, .int .i64 0, .bool false, .string ⟨#[]⟩, .slice none 0 0, .int .i64 0, .slice none 0 0, .int .i64 0, .int .u64 0] ∧ w.heap.size ≤ b ∧ w.heap.size ≤ rb ∧ rb ≠ b ∧ PinOk c w' rb (newPin c th) ∧ Below w.heap.size w w' := by
  have hR := fun W => right_cfg c W
  rw [(PCfg.right_iff c).2 hc] at hR
  have hN := fun W => pinNew_ok c hc th hth W
  rw [show PCfg.val c = .agg #[.int .i64 c.cap, .int .i64 c.pins, .int .i64 c.shelves, .int .i64 c.queue, .int .i64 c.watchers, .int .u64 c.seed] from rfl] at hR hN
  have hd0 : decide (th < 0) = false := by simp; omega
  have B1 := Blk.new w 24 #[.int .i64 c.cap, .int .i64 c.pins, .int .i64 c.shelves, .int .i64 c.queue, .int .i64 c.watchers, .int .u64 c.seed]
  have hz : Below w.heap.size w (w.alloc (.cells #[.int .i64 c.cap, .int .i64 c.pins, .int .i64 c.shelves, .int .i64 c.queue, .int .i64 c.watchers, .int .u64 c.seed] 24)) := (Below.refl _ _).alloc (Nat.le_refl _) _
  clear hc hth
  replace B1 := Lib.hid B1
  replace hz := Lib.hid hz
  replace hR := Lib.hid hR
  replace hN := Lib.hid hN
  go_enter Tryz.func19, Tryz.ntmps19
  go_wp2_with fail
  refine (hR.out _).mono ?_; rintro e w1 ⟨rfl, hb⟩
  have hz1 := nx hz.out (Nat.le_refl _) hb
  have B2 := B1.out.below hb (by simp)
  have d0 := B2.cell 0
  have d1 := B2.cell 1
  have d2 := B2.cell 2
  have d3 := B2.cell 3
  have d4 := B2.cell 4
  have d5 := B2.cell 5
  have hs1 := B2.lt
  clear hb
  replace B2 := Lib.hid B2
  replace hz1 := Lib.hid hz1
  go_wp2_with fail
  go_region_with (go_at_call 37; refine (hN.out _).mono ?_; rintro e w2 ⟨rb, rfl, hV, hrb, hb2⟩; have hB3 := Blk.below (w := w1.drew) B2.out hb2 hs1; have d0' := hB3.cell 0; have d1' := hB3.cell 1; have d2' := hB3.cell 2; have d3' := hB3.cell 3; have d4' := hB3.cell 4; have d5' := hB3.cell 5; have hz2 := nx (b := w1.drew) hz1.out.drew (Nat.le_refl _) hb2; replace hB3 := Lib.hid hB3; replace hz2 := Lib.hid hz2; replace hV := Lib.hid hV; clear hb2)
  all_goals
    go_wp2_with fail
    go_ret
    have hrl := hV.out.lies.blk.lt
    have hz1s := hz1.out.size
    have hrb' : w1.heap.size ≤ rb := hrb
    exact ⟨w2.heap.size, rb, rfl, Blk.new w2 _ _, hz2.out.size, by omega, by omega, hV.out.keep (Below.heap_alloc w2 _ rb hrl), hz2.out.alloc hz2.out.size _⟩
set_option maxRecDepth 100000 in
set_option maxHeartbeats 2000000 in
theorem readNewN_any (c : PCfg) (hc : c.right = false) (th : Int) (key : ByteArray) (w : World) : Calls Tryz.prog 19 #[.agg #[.int .i64 c.cap, .int .i64 c.pins, .int .i64 c.shelves, .int .i64 c.queue, .int .i64 c.watchers, .int .u64 c.seed], .int .i64 th, .string key] w fun e w' => ∃ b, e = .returned (.pointer (some ⟨b, 0, none⟩)) ∧ Blk w' b 128 #[.int .i64 0, .int .i64 0, .int .i64 0, .int .i64 0, .int .i64 0, .int .u64 0, .string ⟨#[]⟩, .int .i64 0, .int .i64 0, .pointer none, .int .i64 0, .int .u64 0, .bool false, .pointer none, .pointer none, .int .i64 0, .int .i64 0, .int .i64 0, .bool false, .string ⟨#[]⟩, .slice none 0 0, .int .i64 0, .slice none 0 0, .int .i64 0, .int .u64 0] ∧ w.heap.size ≤ b ∧ Below w.heap.size w w' := by
  have hR := fun W => right_cfg c W
  rw [hc] at hR
  rw [show PCfg.val c = .agg #[.int .i64 c.cap, .int .i64 c.pins, .int .i64 c.shelves, .int .i64 c.queue, .int .i64 c.watchers, .int .u64 c.seed] from rfl] at hR
  have hz : Below w.heap.size w (w.alloc (.cells #[.int .i64 c.cap, .int .i64 c.pins, .int .i64 c.shelves, .int .i64 c.queue, .int .i64 c.watchers, .int .u64 c.seed] 24)) := (Below.refl _ _).alloc (Nat.le_refl _) _
  clear hc
  replace hz := Lib.hid hz
  replace hR := Lib.hid hR
  go_enter Tryz.func19, Tryz.ntmps19
  go_wp2_with fail
  refine (hR.out _).mono ?_; rintro e w1 ⟨rfl, hb⟩
  have hz1 := nx hz.out (Nat.le_refl _) hb
  clear hb
  replace hz1 := Lib.hid hz1
  go_wp2_with fail
  go_ret
  exact ⟨w1.heap.size, rfl, Blk.new w1 _ _, hz1.out.size, hz1.out.alloc hz1.out.size _⟩
end Go.Proofs.YtmlnhjfdhjachaaGreat

/-
  Reading a key (layer 26), as a routine. No condition.
-/
namespace Go.Proofs.YtmlnhjfdhjachaaGreat
set_option linter.unusedVariables false
open Go.ChangeShapes Go.WideShapes Go.ChangeAt Go.RowKit
open Go.ChangeMaps (setBlock)

/-- What holds of one that goes. -/
structure PRead.Inv (s : PRead) : Prop where
  part : 1 ≤ s.part ∧ s.part ≤ 5
  right : s.cfg.Right
  key : s.key.size ≤ 9223372036854775807
  pp : 2 ≤ s.part → s.part ≤ 4 → 0 ≤ s.pp ∧ s.pp < s.cfg.pins
  pe : 0 ≤ s.pe ∧ s.pe ≤ 18446744073709551615
/-- A part that goes lies at a block of its own. -/
def ReadSub (w : World) (Q : Nat → Prop) (b : Nat) (s : PRead) (pv fv cv : Value) : Prop :=
  (s.part = 1 → ∃ rb, pv = .pointer (some ⟨rb, 0, none⟩) ∧ Q rb ∧ rb ≠ b ∧ PinOk s.cfg w rb s.pin ∧ s.pin.part ≠ 5) ∧
  (s.part = 2 → ∃ rb, fv = .pointer (some ⟨rb, 0, none⟩) ∧ Q rb ∧ rb ≠ b ∧ FindIn w rb s.find ∧ s.find.made = true ∧ s.find.kind = 0 ∧ s.find.cfg = s.cfg) ∧
  (s.part = 3 → ∃ rb, cv = .pointer (some ⟨rb, 0, none⟩) ∧ Q rb ∧ rb ≠ b ∧ ChainIn w rb s.chain ∧ 1 ≤ s.chain.part ∧ s.chain.part ≠ 6)
def ReadIn (w : World) (Q : Nat → Prop) (b : Nat) (s : PRead) : Prop :=
  ∃ pv fv cv, Blk w b 128 (s.cells pv fv cv) ∧ (s.part = 0 ∨ (s.Inv ∧ ReadSub w Q b s pv fv cv))
theorem ReadSub.keep {w w' : World} {Q : Nat → Prop} {b : Nat} {s : PRead} {pv fv cv : Value} (h : ReadSub w Q b s pv fv cv) (hk : ∀ k, Q k → w'.heap[k]? = w.heap[k]?) : ReadSub w' Q b s pv fv cv :=
  ⟨fun e => by obtain ⟨rb, h1, h2, h3, h4, h5⟩ := h.1 e; exact ⟨rb, h1, h2, h3, h4.keep (hk _ h2), h5⟩,
   fun e => by obtain ⟨rb, h1, h2, h3, h4, h5⟩ := h.2.1 e; exact ⟨rb, h1, h2, h3, h4.keep (hk _ h2), h5⟩,
   fun e => by obtain ⟨rb, h1, h2, h3, h4, h5⟩ := h.2.2 e; exact ⟨rb, h1, h2, h3, h4.keep (hk _ h2), h5⟩⟩
theorem ReadSub.wide {w : World} {Q Q' : Nat → Prop} {b : Nat} {s : PRead} {pv fv cv : Value} (h : ReadSub w Q b s pv fv cv) (hk : ∀ k, Q k → Q' k) : ReadSub w Q' b s pv fv cv :=
  ⟨fun e => by obtain ⟨rb, h1, h2, h3⟩ := h.1 e; exact ⟨rb, h1, hk _ h2, h3⟩,
   fun e => by obtain ⟨rb, h1, h2, h3⟩ := h.2.1 e; exact ⟨rb, h1, hk _ h2, h3⟩,
   fun e => by obtain ⟨rb, h1, h2, h3⟩ := h.2.2 e; exact ⟨rb, h1, hk _ h2, h3⟩⟩
theorem ReadIn.keep {w w' : World} {Q : Nat → Prop} {b : Nat} {s : PRead} (h : ReadIn w Q b s) (hb : Q b) (hk : ∀ k, Q k → w'.heap[k]? = w.heap[k]?) : ReadIn w' Q b s := by
  obtain ⟨pv, fv, cv, h1, h2⟩ := h
  exact ⟨pv, fv, cv, h1.keep (hk _ hb), h2.imp id fun ⟨h3, h4⟩ => ⟨h3, h4.keep hk⟩⟩
theorem ReadIn.wide {w : World} {Q Q' : Nat → Prop} {b : Nat} {s : PRead} (h : ReadIn w Q b s) (hk : ∀ k, Q k → Q' k) : ReadIn w Q' b s := by
  obtain ⟨pv, fv, cv, h1, h2⟩ := h
  exact ⟨pv, fv, cv, h1, h2.imp id fun ⟨h3, h4⟩ => ⟨h3, h4.wide hk⟩⟩
theorem readAct_any {w : World} {Q : Nat → Prop} {b : Nat} {s : PRead} (h : ReadIn w Q b s) : Calls Tryz.prog 159 #[.pointer (some ⟨b, 0, none⟩)] w fun e w' => e = .returned (.tuple #[s.act.1.val, .bool s.act.2]) ∧ Below w.heap.size w w' := by
  obtain ⟨pv, fv, cv, hB, hc⟩ := h
  have hz : Below w.heap.size w (w.alloc (.cells #[.int .i64 0, .int .u64 0, .int .i64 0, .int .u64 0, .int .u64 0, .string ⟨#[]⟩] 31)) := (Below.refl _ _).alloc (Nat.le_refl _) _
  obtain ⟨c, key, part, acts, pin, pp, pe, pt, find, chain, code, took, value, mark⟩ := s
  have hB' := hB
  unfold PRead.cells at hB'
  simp only at hB' hc
  rcases hc with rfl | ⟨hI, h1, h2, h3⟩
  · have ha : PRead.act ⟨c, key, 0, acts, pin, pp, pe, pt, find, chain, code, took, value, mark⟩ = (noAct, false) := rfl
    rw [ha]
    exact readAct0_any hB'
  · have hp := hI.part
    simp only at hp h1 h2 h3
    have hcase : part = 1 ∨ part = 2 ∨ part = 3 ∨ part = 4 ∨ part = 5 := by omega
    rcases hcase with rfl | rfl | rfl | rfl | rfl
    · obtain ⟨rb, rfl, hq, hne, hs, _⟩ := h1 rfl
      have ha : PRead.act ⟨c, key, 1, acts, pin, pp, pe, pt, find, chain, code, took, value, mark⟩ = pin.act := rfl
      rw [ha]
      have hA := pinAct_any (hs.lies.below hz)
      generalize pin.act = pa at *
      obtain ⟨⟨xk, xb, xc, xo, xn, xt⟩, mo⟩ := pa
      exact readAct1_any hB' hA
    · obtain ⟨rb, rfl, hq, hne, hs, _⟩ := h2 rfl
      have ha : PRead.act ⟨c, key, 2, acts, pin, pp, pe, pt, find, chain, code, took, value, mark⟩ = find.act := rfl
      rw [ha]
      have hA := findAct_any (hs.below hz)
      generalize find.act = pa at *
      obtain ⟨⟨xk, xb, xc, xo, xn, xt⟩, mo⟩ := pa
      exact readAct2_any hB' hA
    · obtain ⟨rb, rfl, hq, hne, hs, _⟩ := h3 rfl
      have ha : PRead.act ⟨c, key, 3, acts, pin, pp, pe, pt, find, chain, code, took, value, mark⟩ = chain.act := rfl
      rw [ha]
      have hA := chainAct_any (hs.below hz)
      generalize chain.act = pa at *
      obtain ⟨⟨xk, xb, xc, xo, xn, xt⟩, mo⟩ := pa
      exact readAct3_any hB' hA
    · have ha : PRead.act ⟨c, key, 4, acts, pin, pp, pe, pt, find, chain, code, took, value, mark⟩ = (⟨2, 1, 3 + pp, 0, 0, ByteArray.empty⟩, true) := rfl
      rw [ha]
      exact readAct4_any hB' hI.right (hI.pp (by show (2 : Int) ≤ 4; decide) (by show (4 : Int) ≤ 4; decide))
    · have ha : PRead.act ⟨c, key, 5, acts, pin, pp, pe, pt, find, chain, code, took, value, mark⟩ = (noAct, false) := rfl
      rw [ha]
      exact readAct5_any hB'
theorem settle_pin {c : PCfg} {w : World} {rb : Nat} {r : PPin} (h : PinOk c w rb r) : ∀ W : World, Below w.heap.size w W → Calls Tryz.prog 81 #[.pointer (some ⟨rb, 0, none⟩)] W fun e w' => e = .returned (.tuple #[.agg #[.int .i64 r.result.1.1, .int .u64 r.result.1.2.1, .bool r.result.1.2.2], .bool r.result.2]) ∧ Below W.heap.size W w' :=
  fun W hb => pinResult_any (h.lies.below hb)
theorem settle_find {w : World} {rb : Nat} {r : PFind} (h : FindIn w rb r) : ∀ W : World, Below w.heap.size w W → Calls Tryz.prog 61 #[.pointer (some ⟨rb, 0, none⟩)] W fun e w' => e = .returned (.tuple #[.agg #[.int .i64 r.result.1.1, .int .i64 r.result.1.2], .bool r.result.2]) ∧ Below W.heap.size W w' :=
  fun W hb => findResult_any (h.below hb)
theorem settle_chain {w : World} {rb : Nat} {r : PChain} (h : ChainIn w rb r) : ∀ W : World, Below w.heap.size w W → Calls Tryz.prog 84 #[.pointer (some ⟨rb, 0, none⟩)] W fun e w' => e = .returned (.tuple #[.agg #[.bool r.result.1.1, .string r.result.1.2.1, .int .u64 r.result.1.2.2], .bool r.result.2]) ∧ Below W.heap.size W w' :=
  fun W hb => chainResult_any (h.below hb)
end Go.Proofs.YtmlnhjfdhjachaaGreat

/-
  What reading a key (layer 26) takes; the routine as a whole. No condition.
-/
namespace Go.Proofs.YtmlnhjfdhjachaaGreat
set_option linter.unusedVariables false
open Go.ChangeShapes Go.WideShapes Go.ChangeAt Go.RowKit
open Go.ChangeMaps (setBlock)

theorem rpinTake_ok {c : PCfg} {w : World} {b : Nat} {s : PPin} (h : PinOk c w b s) (g : PGot) (hg : g.Ok) : Calls Tryz.prog 49 #[.pointer (some ⟨b, 0, none⟩), g.val] w fun e w' => e = .returned (.tuple #[]) ∧ PinOk c w' b (s.take g) ∧ Chg (fun k => k = b) w w' :=
  (pinTake_any h.lies (fun e => by rw [h.inv.cfg]; exact h.inv.two (.inl e)) g hg).mono fun e w' ⟨he, hv, hc⟩ => ⟨he, ⟨hv, h.inv.take g⟩, hc⟩
theorem pin_take_pin {c : PCfg} {s : PPin} (h : PinInv c s) (hp : s.part ≠ 5) (g : PGot) (h5 : (s.take g).part = 5) (ht : (s.take g).taken = false) : 0 ≤ (s.take g).pin ∧ (s.take g).pin < c.pins := by
  have hat := h.at_ok
  have hpt := h.part
  unfold PPin.take at *
  by_cases p1 : s.part = 1
  · rw [if_pos p1] at h5; cases h5
  rw [if_neg p1] at h5 ht ⊢
  by_cases p2 : s.part = 2
  · rw [if_pos p2] at h5 ht ⊢
    by_cases hg : g.word = 0
    · rw [if_pos hg] at h5; cases h5
    rw [if_neg hg] at h5 ht ⊢
    by_cases hx : s.tried + 1 = s.cfg.pins
    · rw [if_pos hx] at ht; cases ht
    rw [if_neg hx] at h5
    exact absurd h5 hp
  rw [if_neg p2] at h5 ht ⊢
  by_cases p4 : s.part = 4
  · rw [if_pos p4] at h5; cases h5
  rw [if_neg p4] at h5 ht ⊢
  by_cases p3 : s.part = 3
  · rw [if_pos p3] at h5 ht ⊢
    by_cases hg : g.word = s.epoch
    · rw [if_pos hg]
      exact ⟨hat.1, hat.2.1⟩
    rw [if_neg hg] at h5; cases h5
  rw [if_neg p3] at h5
  exact absurd h5 hp
theorem find_take_is {s : PFind} (hm : s.made = true) (hk : s.kind = 0) (hs : 1 ≤ s.cfg.shelves) (g : PGot) : (s.take g).made = true ∧ (s.take g).cfg = s.cfg ∧ ((s.take g).kind = 1 → 0 ≤ (s.take g).shelf ∧ (s.take g).shelf < s.cfg.shelves) := by
  have hi : s.idle = false := by simp [PFind.idle, hm, hk]
  have hpl : 0 ≤ s.place ∧ s.place < s.cfg.shelves := placeP_ok _ _ _ hs
  unfold PFind.take
  rw [if_neg (by rw [hi]; decide)]
  split
  · split
    · exact ⟨hm, rfl, fun _ => hpl⟩
    · exact ⟨hm, rfl, fun e => by simp [hk] at e⟩
  · split
    · exact ⟨hm, rfl, fun _ => hpl⟩
    · split
      · exact ⟨hm, rfl, fun e => by simp at e⟩
      · exact ⟨hm, rfl, fun e => by simp [hk] at e⟩
theorem chain_take_part {s : PChain} (h : 1 ≤ s.part) (g : PGot) : 1 ≤ (s.take g).part := by
  have hd : ∀ (t : PChain) (x : Int), 1 ≤ (t.down x).part := fun t x => by
    unfold PChain.down PChain.done_
    split <;> simp
  unfold PChain.take PChain.done_
  split
  · exact hd _ _
  · split
    · split <;> simp
    · split
      · exact hd _ _
      · split
        · split <;> simp
        · split
          · simp
          · exact h
section
variable {w : World} {Q : Nat → Prop} {b : Nat} {c : PCfg} {key : ByteArray} {acts pp pe code mark : Int} {pin : PPin} {find : PFind} {chain : PChain} {pt took : Bool} {value : ByteArray} {pv fv cv : Value} {rb : Nat} {gw : Int} {gt : ByteArray}
def ReadTaken (w : World) (Q : Nat → Prop) (b : Nat) (s : PRead) (e : Ending) (w' : World) : Prop := e = .returned (.tuple #[]) ∧ ReadIn w' (nw Q w w') b s ∧ Chg Q w w'
theorem chg_two {w w' : World} (h : Chg (fun k => k = rb ∨ k = b) w w') (h1 : Q rb) (h2 : Q b) : Chg Q w w' := h.mono fun i hi => by rcases hi with hi | hi <;> rw [hi] <;> assumption
theorem readTakeP1 (hQb : Q b) (hq : Q rb) (hne : rb ≠ b) (hrb : rb < w.heap.size) (hg : PGot.Ok ⟨gw, gt⟩) (hB : Blk w b 128 (PRead.cells ⟨c, key, 1, acts, pin, pp, pe, pt, find, chain, code, took, value, mark⟩ (.pointer (some ⟨rb, 0, none⟩)) fv cv))
    (hI : PRead.Inv ⟨c, key, 1, acts, pin, pp, pe, pt, find, chain, code, took, value, mark⟩) (hs : PinOk c w rb pin) (hn : pin.part ≠ 5) :
    Calls Tryz.prog 160 #[.pointer (some ⟨b, 0, none⟩), .agg #[.int .u64 gw, .string gt]] w (ReadTaken w Q b (PRead.take ⟨c, key, 1, acts, pin, pp, pe, pt, find, chain, code, took, value, mark⟩ ⟨gw, gt⟩)) := by
  have hpp := pin_take_pin hs.inv hn ⟨gw, gt⟩
  have ht : PRead.take ⟨c, key, 1, acts, pin, pp, pe, pt, find, chain, code, took, value, mark⟩ ⟨gw, gt⟩ = PRead.settle1 ⟨c, key, 1, IntKind.i64.wrap (acts + 1), pin.take ⟨gw, gt⟩, pp, pe, pt, find, chain, code, took, value, mark⟩ := rfl
  rw [ht]
  have hT : ∀ W : World, W.heap[rb]? = w.heap[rb]? → Calls Tryz.prog 49 #[.pointer (some ⟨rb, 0, none⟩), .agg #[.int .u64 gw, .string gt]] W fun e w' => e = .returned (.tuple #[]) ∧ PinOk c w' rb (pin.take ⟨gw, gt⟩) ∧ Chg (fun k => k = rb) W w' := fun W hW => rpinTake_ok (hs.keep hW) ⟨gw, gt⟩ hg
  generalize pin.take ⟨gw, gt⟩ = r at *
  have hB' := hB
  unfold PRead.cells at hB'
  simp only at hB'
  have hps := fun (W : World) (h : PinOk c W rb r) => settle_pin h
  by_cases h5 : r.part = 5
  · cases htk : r.taken with
    | true =>
      have hst : PRead.settle1 ⟨c, key, 1, IntKind.i64.wrap (acts + 1), r, pp, pe, pt, find, chain, code, took, value, mark⟩ = ⟨c, key, 5, IntKind.i64.wrap (acts + 1), r, pp, pe, pt, find, chain, 11, took, value, mark⟩ := by simp [PRead.settle1, h5, htk]
      rw [hst]
      refine (readTake1_any hB' hne hrb (P := fun W => PinOk c W rb r) (Post := fun W w' => ∃ W2, Below W.heap.size W W2 ∧ Blk w' b 128 (PRead.cells ⟨c, key, 5, IntKind.i64.wrap (acts + 1), r, pp, pe, pt, find, chain, 11, took, value, mark⟩ (.pointer (some ⟨rb, 0, none⟩)) fv cv) ∧ Chg (fun k => k = b) W2 w') hT fun W hBW hp => ?_).mono ?_
      · have hr := hps W hp
        rw [PPin.result5 h5, htk] at hr
        exact settle1y_any (Post := fun W2 w' => Blk w' b 128 (PRead.cells ⟨c, key, 5, IntKind.i64.wrap (acts + 1), r, pp, pe, pt, find, chain, 11, took, value, mark⟩ (.pointer (some ⟨rb, 0, none⟩)) fv cv) ∧ Chg (fun k => k = b) W2 w') hBW hr fun W2 _ hB2 => readPinT_any hB2
      · rintro e w' ⟨rfl, W, hp, hBW, hC, W2, hb2, hB3, hC3⟩
        have hC4 : Chg Q w w' := ((chg_two hC hq hQb).next_ hb2).trans hC3 fun i hi => Or.inl (by rw [hi]; exact hQb)
        exact ⟨rfl, ⟨_, _, _, hB3, .inr ⟨⟨by show (1 : Int) ≤ 5 ∧ (5 : Int) ≤ 5; decide, hI.right, hI.key, fun _ h => by exact absurd h (by show ¬ (5 : Int) ≤ 4; decide), hI.pe⟩, fun e => by simp at e, fun e => by simp at e, fun e => by simp at e⟩⟩, hC4⟩
    | false =>
      have hst : PRead.settle1 ⟨c, key, 1, IntKind.i64.wrap (acts + 1), r, pp, pe, pt, find, chain, code, took, value, mark⟩ = ⟨c, key, 2, IntKind.i64.wrap (acts + 1), r, r.pin, r.epoch, false, newFind c key, chain, code, took, value, IntKind.i64.wrap (acts + 1)⟩ := by simp [PRead.settle1, h5, htk]
      rw [hst]
      have hpr := hpp h5 htk
      refine (readTake1_any hB' hne hrb (P := fun W => PinOk c W rb r) (Post := fun W w' => ∃ W2, Below W.heap.size W W2 ∧ ∃ fb, Blk w' b 128 (PRead.cells ⟨c, key, 2, IntKind.i64.wrap (acts + 1), r, r.pin, r.epoch, false, newFind c key, chain, code, took, value, IntKind.i64.wrap (acts + 1)⟩ (.pointer (some ⟨rb, 0, none⟩)) (.pointer (some ⟨fb, 0, none⟩)) cv) ∧ FindIn w' fb (newFind c key) ∧ W2.heap.size ≤ fb ∧ Chg (fun k => k = b) W2 w') hT fun W hBW hp => ?_).mono ?_
      · have hr := hps W hp
        rw [PPin.result5 h5, htk] at hr
        exact settle1y_any (Post := fun W2 w' => ∃ fb, Blk w' b 128 (PRead.cells ⟨c, key, 2, IntKind.i64.wrap (acts + 1), r, r.pin, r.epoch, false, newFind c key, chain, code, took, value, IntKind.i64.wrap (acts + 1)⟩ (.pointer (some ⟨rb, 0, none⟩)) (.pointer (some ⟨fb, 0, none⟩)) cv) ∧ FindIn w' fb (newFind c key) ∧ W2.heap.size ≤ fb ∧ Chg (fun k => k = b) W2 w') hBW hr fun W2 _ hB2 => readPinP_any hB2 hI.key
      · rintro e w' ⟨rfl, W, hp, hBW, hC, W2, hb2, fb, hB3, hF3, hfb, hC3⟩
        have hC4 : Chg Q w w' := ((chg_two hC hq hQb).next_ hb2).trans hC3 fun i hi => Or.inl (by rw [hi]; exact hQb)
        have hs1 := hC.size
        have hs2 := hb2.size
        have hbl := hBW.lt
        refine ⟨rfl, ⟨_, _, _, hB3, .inr ⟨⟨by show (1 : Int) ≤ 2 ∧ (2 : Int) ≤ 5; decide, hI.right, hI.key, fun _ _ => hpr, hp.lies.epoch⟩, fun e => by simp at e, fun _ => ⟨fb, rfl, .inr ⟨by omega, hF3.blk.lt⟩, by omega, hF3, (PCfg.right_iff c).2 hI.right, rfl, rfl⟩, fun e => by simp at e⟩⟩, hC4⟩
  · have hst : PRead.settle1 ⟨c, key, 1, IntKind.i64.wrap (acts + 1), r, pp, pe, pt, find, chain, code, took, value, mark⟩ = ⟨c, key, 1, IntKind.i64.wrap (acts + 1), r, pp, pe, pt, find, chain, code, took, value, mark⟩ := by simp [PRead.settle1, h5]
    rw [hst]
    refine (readTake1_any hB' hne hrb (P := fun W => PinOk c W rb r) (Post := fun W w' => Below W.heap.size W w') hT fun W hBW hp => ?_).mono ?_
    · have hr := hps W hp
      rw [PPin.resultN h5] at hr
      exact settle1n_any hBW hr
    · rintro e w' ⟨rfl, W, hp, hBW, hC, hb2⟩
      exact ⟨rfl, ⟨_, _, _, hBW.below hb2 hBW.lt, .inr ⟨⟨hI.part, hI.right, hI.key, fun h _ => by exact absurd h (by show ¬ (2 : Int) ≤ 1; decide), hI.pe⟩, fun _ => ⟨rb, rfl, .inl hq, hne, hp.below hb2, h5⟩, fun e => by simp at e, fun e => by simp at e⟩⟩, (chg_two hC hq hQb).next_ hb2⟩
end
end Go.Proofs.YtmlnhjfdhjachaaGreat

/-
  What reading a key (layer 26) takes behind pinning; the routine as a whole. No condition.
-/
namespace Go.Proofs.YtmlnhjfdhjachaaGreat
set_option linter.unusedVariables false
open Go.ChangeShapes Go.WideShapes Go.ChangeAt Go.RowKit
open Go.ChangeMaps (setBlock)

section
variable {w : World} {Q : Nat → Prop} {b : Nat} {c : PCfg} {key : ByteArray} {acts pp pe code mark : Int} {pin : PPin} {find : PFind} {chain : PChain} {pt took : Bool} {value : ByteArray} {pv fv cv : Value} {rb : Nat} {gw : Int} {gt : ByteArray}
theorem readTakeP2 (hQb : Q b) (hq : Q rb) (hne : rb ≠ b) (hrb : rb < w.heap.size) (hg : PGot.Ok ⟨gw, gt⟩) (hB : Blk w b 128 (PRead.cells ⟨c, key, 2, acts, pin, pp, pe, pt, find, chain, code, took, value, mark⟩ pv (.pointer (some ⟨rb, 0, none⟩)) cv))
    (hI : PRead.Inv ⟨c, key, 2, acts, pin, pp, pe, pt, find, chain, code, took, value, mark⟩) (hs : FindIn w rb find) (hm : find.made = true) (hk : find.kind = 0) (hc : find.cfg = c) :
    Calls Tryz.prog 160 #[.pointer (some ⟨b, 0, none⟩), .agg #[.int .u64 gw, .string gt]] w (ReadTaken w Q b (PRead.take ⟨c, key, 2, acts, pin, pp, pe, pt, find, chain, code, took, value, mark⟩ ⟨gw, gt⟩)) := by
  have hti := find_take_is hm hk (by rw [hc]; exact hI.right.shelves.1) ⟨gw, gt⟩
  rw [hc] at hti
  have ht : PRead.take ⟨c, key, 2, acts, pin, pp, pe, pt, find, chain, code, took, value, mark⟩ ⟨gw, gt⟩ = PRead.settle2 ⟨c, key, 2, IntKind.i64.wrap (acts + 1), pin, pp, pe, pt, find.take ⟨gw, gt⟩, chain, code, took, value, mark⟩ := rfl
  rw [ht]
  have hT : ∀ W : World, W.heap[rb]? = w.heap[rb]? → Calls Tryz.prog 162 #[.pointer (some ⟨rb, 0, none⟩), .agg #[.int .u64 gw, .string gt]] W fun e w' => e = .returned (.tuple #[]) ∧ FindIn w' rb (find.take ⟨gw, gt⟩) ∧ Chg (fun k => k = rb) W w' := fun W hW => findTake_any (hs.keep hW) ⟨gw, gt⟩ hg
  generalize find.take ⟨gw, gt⟩ = r at *
  have hB' := hB
  unfold PRead.cells at hB'
  simp only at hB'
  have hps := fun (W : World) (h : FindIn W rb r) => settle_find h
  have hpp := hI.pp (by show (2 : Int) ≤ 2; decide) (by show (2 : Int) ≤ 4; decide)
  obtain ⟨hm1, hc1, hr1⟩ := hti
  by_cases h0 : r.kind = 0
  · have hst : PRead.settle2 ⟨c, key, 2, IntKind.i64.wrap (acts + 1), pin, pp, pe, pt, r, chain, code, took, value, mark⟩ = ⟨c, key, 2, IntKind.i64.wrap (acts + 1), pin, pp, pe, pt, r, chain, code, took, value, mark⟩ := by simp [PRead.settle2, h0]
    rw [hst]
    refine (readTake2_any hB' hne hrb (P := fun W => FindIn W rb r) (Post := fun W w' => Below W.heap.size W w') hT fun W hBW hp => ?_).mono ?_
    · have hr := hps W hp
      rw [show r.result = ((0, 0), false) from by unfold PFind.result; rw [if_pos h0]] at hr
      exact settle2n_any hBW hr
    · rintro e w' ⟨rfl, W, hp, hBW, hC, hb2⟩
      exact ⟨rfl, ⟨_, _, _, hBW.below hb2 hBW.lt, .inr ⟨⟨hI.part, hI.right, hI.key, fun _ _ => hpp, hI.pe⟩, fun e => by simp at e, fun _ => ⟨rb, rfl, .inl hq, hne, hp.below hb2, hm1, h0, hc1⟩, fun e => by simp at e⟩⟩, (chg_two hC hq hQb).next_ hb2⟩
  · have hres : r.result = ((r.kind, r.shelf), true) := by unfold PFind.result; rw [if_neg h0]
    by_cases h1 : r.kind = 1
    · have hst : PRead.settle2 ⟨c, key, 2, IntKind.i64.wrap (acts + 1), pin, pp, pe, pt, r, chain, code, took, value, mark⟩ = ⟨c, key, 3, IntKind.i64.wrap (acts + 1), pin, pp, pe, pt, r, newChain (3 + c.pins + c.cap + 2 * r.shelf + 1) pe, code, took, value, mark⟩ := by simp [PRead.settle2, h1]
      rw [hst]
      refine (readTake2_any hB' hne hrb (P := fun W => FindIn W rb r) (Post := fun W w' => ∃ W2, Below W.heap.size W W2 ∧ ∃ cb, Blk w' b 128 (PRead.cells ⟨c, key, 3, IntKind.i64.wrap (acts + 1), pin, pp, pe, pt, r, newChain (3 + c.pins + c.cap + 2 * r.shelf + 1) pe, code, took, value, mark⟩ pv (.pointer (some ⟨rb, 0, none⟩)) (.pointer (some ⟨cb, 0, none⟩))) ∧ ChainIn w' cb (newChain (3 + c.pins + c.cap + 2 * r.shelf + 1) pe) ∧ W2.heap.size ≤ cb ∧ Chg (fun k => k = b) W2 w') hT fun W hBW hp => ?_).mono ?_
      · have hr := hps W hp
        rw [hres, h1] at hr
        exact settle2y_any (Post := fun W2 w' => ∃ cb, Blk w' b 128 (PRead.cells ⟨c, key, 3, IntKind.i64.wrap (acts + 1), pin, pp, pe, pt, r, newChain (3 + c.pins + c.cap + 2 * r.shelf + 1) pe, code, took, value, mark⟩ pv (.pointer (some ⟨rb, 0, none⟩)) (.pointer (some ⟨cb, 0, none⟩))) ∧ ChainIn w' cb (newChain (3 + c.pins + c.cap + 2 * r.shelf + 1) pe) ∧ W2.heap.size ≤ cb ∧ Chg (fun k => k = b) W2 w') hBW hr fun W2 _ hB2 => readYes_any hB2 hI.right (hr1 h1) hI.pe
      · rintro e w' ⟨rfl, W, hp, hBW, hC, W2, hb2, cb, hB3, hF3, hcb, hC3⟩
        have hC4 : Chg Q w w' := ((chg_two hC hq hQb).next_ hb2).trans hC3 fun i hi => Or.inl (by rw [hi]; exact hQb)
        have hs1 := hC.size
        have hs2 := hb2.size
        have hbl := hBW.lt
        refine ⟨rfl, ⟨_, _, _, hB3, .inr ⟨⟨by show (1 : Int) ≤ 3 ∧ (3 : Int) ≤ 5; decide, hI.right, hI.key, fun _ _ => hpp, hI.pe⟩, fun e => by simp at e, fun e => by simp at e, fun _ => ⟨cb, rfl, .inr ⟨by omega, hF3.blk.lt⟩, by omega, hF3, by show (1 : Int) ≤ 1; decide, by show (1 : Int) ≠ 6; decide⟩⟩⟩, hC4⟩
    · have hst : PRead.settle2 ⟨c, key, 2, IntKind.i64.wrap (acts + 1), pin, pp, pe, pt, r, chain, code, took, value, mark⟩ = ⟨c, key, 4, IntKind.i64.wrap (acts + 1), pin, pp, pe, pt, r, chain, code, took, value, mark⟩ := by simp [PRead.settle2, h0, h1]
      rw [hst]
      refine (readTake2_any hB' hne hrb (P := fun W => FindIn W rb r) (Post := fun W w' => ∃ W2, Below W.heap.size W W2 ∧ Blk w' b 128 (PRead.cells ⟨c, key, 4, IntKind.i64.wrap (acts + 1), pin, pp, pe, pt, r, chain, code, took, value, mark⟩ pv (.pointer (some ⟨rb, 0, none⟩)) cv) ∧ Chg (fun k => k = b) W2 w') hT fun W hBW hp => ?_).mono ?_
      · have hr := hps W hp
        rw [hres] at hr
        exact settle2y_any (Post := fun W2 w' => Blk w' b 128 (PRead.cells ⟨c, key, 4, IntKind.i64.wrap (acts + 1), pin, pp, pe, pt, r, chain, code, took, value, mark⟩ pv (.pointer (some ⟨rb, 0, none⟩)) cv) ∧ Chg (fun k => k = b) W2 w') hBW hr fun W2 _ hB2 => readNo_any hB2 h1
      · rintro e w' ⟨rfl, W, hp, hBW, hC, W2, hb2, hB3, hC3⟩
        have hC4 : Chg Q w w' := ((chg_two hC hq hQb).next_ hb2).trans hC3 fun i hi => Or.inl (by rw [hi]; exact hQb)
        exact ⟨rfl, ⟨_, _, _, hB3, .inr ⟨⟨by show (1 : Int) ≤ 4 ∧ (4 : Int) ≤ 5; decide, hI.right, hI.key, fun _ _ => hpp, hI.pe⟩, fun e => by simp at e, fun e => by simp at e, fun e => by simp at e⟩⟩, hC4⟩
theorem readTakeP3 (hQb : Q b) (hq : Q rb) (hne : rb ≠ b) (hrb : rb < w.heap.size) (hg : PGot.Ok ⟨gw, gt⟩) (hB : Blk w b 128 (PRead.cells ⟨c, key, 3, acts, pin, pp, pe, pt, find, chain, code, took, value, mark⟩ pv fv (.pointer (some ⟨rb, 0, none⟩))))
    (hI : PRead.Inv ⟨c, key, 3, acts, pin, pp, pe, pt, find, chain, code, took, value, mark⟩) (hs : ChainIn w rb chain) (h1 : 1 ≤ chain.part) :
    Calls Tryz.prog 160 #[.pointer (some ⟨b, 0, none⟩), .agg #[.int .u64 gw, .string gt]] w (ReadTaken w Q b (PRead.take ⟨c, key, 3, acts, pin, pp, pe, pt, find, chain, code, took, value, mark⟩ ⟨gw, gt⟩)) := by
  have hti := chain_take_part h1 ⟨gw, gt⟩
  have ht : PRead.take ⟨c, key, 3, acts, pin, pp, pe, pt, find, chain, code, took, value, mark⟩ ⟨gw, gt⟩ = PRead.settle3 ⟨c, key, 3, IntKind.i64.wrap (acts + 1), pin, pp, pe, pt, find, chain.take ⟨gw, gt⟩, code, took, value, mark⟩ := rfl
  rw [ht]
  have hT : ∀ W : World, W.heap[rb]? = w.heap[rb]? → Calls Tryz.prog 53 #[.pointer (some ⟨rb, 0, none⟩), .agg #[.int .u64 gw, .string gt]] W fun e w' => e = .returned (.tuple #[]) ∧ ChainIn w' rb (chain.take ⟨gw, gt⟩) ∧ Chg (fun k => k = rb) W w' := fun W hW => chainTake_any (hs.keep hW) ⟨gw, gt⟩ hg
  generalize chain.take ⟨gw, gt⟩ = r at *
  have hB' := hB
  unfold PRead.cells at hB'
  simp only at hB'
  have hps := fun (W : World) (h : ChainIn W rb r) => settle_chain h
  have hpp := hI.pp (by show (2 : Int) ≤ 3; decide) (by show (3 : Int) ≤ 4; decide)
  by_cases h6 : r.part = 6
  · have hst : PRead.settle3 ⟨c, key, 3, IntKind.i64.wrap (acts + 1), pin, pp, pe, pt, find, r, code, took, value, mark⟩ = ⟨c, key, 4, IntKind.i64.wrap (acts + 1), pin, pp, pe, pt, find, r, 0, r.has, r.text, mark⟩ := by simp [PRead.settle3, h6]
    rw [hst]
    refine (readTake3_any hB' hne hrb (P := fun W => ChainIn W rb r) (Post := fun W w' => Blk w' b 128 (PRead.cells ⟨c, key, 4, IntKind.i64.wrap (acts + 1), pin, pp, pe, pt, find, r, 0, r.has, r.text, mark⟩ pv fv (.pointer (some ⟨rb, 0, none⟩))) ∧ Chg (fun k => k = b) W w') hT fun W hBW hp => ?_).mono ?_
    · have hr := hps W hp
      rw [show r.result = ((r.has, r.text, r.vblock), true) from by unfold PChain.result; rw [if_pos h6]] at hr
      exact settle3y_any hBW hr
    · rintro e w' ⟨rfl, W, hp, hBW, hC, hB3, hC3⟩
      have hC4 : Chg Q w w' := (chg_two hC hq hQb).trans hC3 fun i hi => Or.inl (by rw [hi]; exact hQb)
      exact ⟨rfl, ⟨_, _, _, hB3, .inr ⟨⟨by show (1 : Int) ≤ 4 ∧ (4 : Int) ≤ 5; decide, hI.right, hI.key, fun _ _ => hpp, hI.pe⟩, fun e => by simp at e, fun e => by simp at e, fun e => by simp at e⟩⟩, hC4⟩
  · have hst : PRead.settle3 ⟨c, key, 3, IntKind.i64.wrap (acts + 1), pin, pp, pe, pt, find, r, code, took, value, mark⟩ = ⟨c, key, 3, IntKind.i64.wrap (acts + 1), pin, pp, pe, pt, find, r, code, took, value, mark⟩ := by simp [PRead.settle3, h6]
    rw [hst]
    refine (readTake3_any hB' hne hrb (P := fun W => ChainIn W rb r) (Post := fun W w' => Below W.heap.size W w') hT fun W hBW hp => ?_).mono ?_
    · have hr := hps W hp
      rw [show r.result = ((false, ByteArray.empty, 0), false) from by unfold PChain.result; rw [if_neg h6]] at hr
      exact settle3n_any hBW hr
    · rintro e w' ⟨rfl, W, hp, hBW, hC, hb2⟩
      exact ⟨rfl, ⟨_, _, _, hBW.below hb2 hBW.lt, .inr ⟨⟨hI.part, hI.right, hI.key, fun _ _ => hpp, hI.pe⟩, fun e => by simp at e, fun e => by simp at e, fun _ => ⟨rb, rfl, .inl hq, hne, hp.below hb2, hti, h6⟩⟩⟩, (chg_two hC hq hQb).next_ hb2⟩
theorem readTakeP4 (hQb : Q b) (hB : Blk w b 128 (PRead.cells ⟨c, key, 4, acts, pin, pp, pe, pt, find, chain, code, took, value, mark⟩ pv fv cv)) (hI : PRead.Inv ⟨c, key, 4, acts, pin, pp, pe, pt, find, chain, code, took, value, mark⟩) :
    Calls Tryz.prog 160 #[.pointer (some ⟨b, 0, none⟩), .agg #[.int .u64 gw, .string gt]] w (ReadTaken w Q b (PRead.take ⟨c, key, 4, acts, pin, pp, pe, pt, find, chain, code, took, value, mark⟩ ⟨gw, gt⟩)) := by
  have ht : PRead.take ⟨c, key, 4, acts, pin, pp, pe, pt, find, chain, code, took, value, mark⟩ ⟨gw, gt⟩ = ⟨c, key, 5, IntKind.i64.wrap (acts + 1), pin, pp, pe, pt, find, chain, code, took, value, mark⟩ := rfl
  rw [ht]
  have hB' := hB
  unfold PRead.cells at hB'
  simp only at hB'
  refine (readTake4_any hB').mono ?_
  rintro e w' ⟨rfl, hB3, hC3⟩
  exact ⟨rfl, ⟨pv, fv, cv, hB3, .inr ⟨⟨by show (1 : Int) ≤ 5 ∧ (5 : Int) ≤ 5; decide, hI.right, hI.key, fun _ h => by exact absurd h (by show ¬ (5 : Int) ≤ 4; decide), hI.pe⟩, fun e => by simp at e, fun e => by simp at e, fun e => by simp at e⟩⟩, hC3.mono fun i hi => by rw [hi]; exact hQb⟩
end
theorem readTake_any {w : World} {Q : Nat → Prop} {b : Nat} {s : PRead} (hQ : In Q w) (hQb : Q b) (h : ReadIn w Q b s) (hmo : s.act.2 = true) (g : PGot) (hg : g.Ok) : Calls Tryz.prog 160 #[.pointer (some ⟨b, 0, none⟩), g.val] w (ReadTaken w Q b (s.take g)) := by
  obtain ⟨pv, fv, cv, hB, hc⟩ := h
  obtain ⟨gw, gt⟩ := g
  rw [show PGot.val ⟨gw, gt⟩ = .agg #[.int .u64 gw, .string gt] from rfl]
  obtain ⟨c, key, part, acts, pin, pp, pe, pt, find, chain, code, took, value, mark⟩ := s
  simp only at hc
  rcases hc with rfl | ⟨hI, h1, h2, h3⟩
  · cases hmo
  · have hp := hI.part
    simp only at hp h1 h2 h3
    have hcase : part = 1 ∨ part = 2 ∨ part = 3 ∨ part = 4 ∨ part = 5 := by omega
    rcases hcase with rfl | rfl | rfl | rfl | rfl
    · obtain ⟨rb, rfl, hq, hne, hs, hn⟩ := h1 rfl
      exact readTakeP1 hQb hq hne (hQ _ hq) hg hB hI hs hn
    · obtain ⟨rb, rfl, hq, hne, hs, hm, hk, hcf⟩ := h2 rfl
      exact readTakeP2 hQb hq hne (hQ _ hq) hg hB hI hs hm hk hcf
    · obtain ⟨rb, rfl, hq, hne, hs, hk, _⟩ := h3 rfl
      exact readTakeP3 hQb hq hne (hQ _ hq) hg hB hI hs hk
    · exact readTakeP4 hQb hB hI
    · cases hmo
def ReadR (w : World) (Q : Nat → Prop) (b : Nat) (s : PRead) : Prop := In Q w ∧ Q b ∧ ReadIn w Q b s
theorem readAct_ok {w : World} {Q : Nat → Prop} {b : Nat} {s : PRead} (h : ReadIn w Q b s) : (s.act).1.Ok := by
  have k0 : (-9223372036854775808 : Int) ≤ 0 ∧ (0 : Int) ≤ 9223372036854775807 := by decide
  have k2 : (-9223372036854775808 : Int) ≤ 2 ∧ (2 : Int) ≤ 9223372036854775807 := by decide
  have z : (0 : Int) ≤ 0 ∧ (0 : Int) ≤ 18446744073709551615 := by decide
  have z1 : (0 : Int) ≤ 1 ∧ (1 : Int) ≤ 18446744073709551615 := by decide
  have hE : ByteArray.empty.size ≤ 9223372036854775807 := by decide
  obtain ⟨pv, fv, cv, hB, hc⟩ := h
  unfold PRead.act
  split
  · rename_i hp
    rcases hc with e | ⟨hI, h1, h2, h3⟩
    · omega
    · obtain ⟨rb, _, _, _, hs, _⟩ := h1 hp
      exact pinAct_ok hs.inv
  split
  · rename_i hp
    rcases hc with e | ⟨hI, h1, h2, h3⟩
    · omega
    · obtain ⟨rb, _, _, _, hs, _⟩ := h2 hp
      exact findAct_ok hs
  split
  · rename_i hp
    rcases hc with e | ⟨hI, h1, h2, h3⟩
    · omega
    · obtain ⟨rb, _, _, _, hs, _⟩ := h3 hp
      exact chainAct_ok hs
  split
  · rename_i hp
    rcases hc with e | ⟨hI, h1, h2, h3⟩
    · omega
    · have h4 := hI.pp (by omega) (by omega)
      have h5 := hI.right.pins
      exact ⟨k2, z1, by show -9223372036854775808 ≤ 3 + s.pp ∧ 3 + s.pp ≤ 9223372036854775807; omega, z, z, hE⟩
  · exact ⟨k0, z, k0, z, z, hE⟩
def readRout : Rout PRead where
  T := 60
  fAct := 159
  fTake := 160
  mAct := fun _ _ => by kernel_rfl
  mTake := fun _ _ => by kernel_rfl
  nAct := fun _ _ => by kernel_rfl
  nTake := fun _ _ => by kernel_rfl
  eAct := fun _ _ => by kernel_rfl
  eTake := fun _ _ => by kernel_rfl
  R := ReadR
  own := fun h => h.1
  hG := fun h => h.2.1
  keep := fun ⟨h1, h2, h3⟩ hs hk => ⟨h1.mono hs, h2, h3.keep h2 hk⟩
  act := PRead.act
  take := PRead.take
  okA := fun h => readAct_ok h.2.2
  cAct := fun ⟨_, _, h⟩ => readAct_any h
  cTake := fun {w G b s} g ⟨h1, h2, h3⟩ hg hmo => (readTake_any h1 h2 h3 hmo g hg).mono fun e w' ⟨he, hv, hc⟩ => ⟨he, ⟨h1.nw hc.size, .inl h2, hv⟩, hc⟩
def noRead : PRead := ⟨⟨0, 0, 0, 0, 0, 0⟩, ByteArray.empty, 0, 0, newPin ⟨0, 0, 0, 0, 0, 0⟩ 0, 0, 0, false, newFind ⟨0, 0, 0, 0, 0, 0⟩ ByteArray.empty, newChain 0 0, 0, false, ByteArray.empty, 0⟩
def newRead (c : PCfg) (th : Int) (key : ByteArray) : PRead :=
  if c.right then ⟨c, key, 1, 0, newPin c th, 0, 0, false, newFind c key, newChain 0 0, 0, false, ByteArray.empty, 0⟩ else noRead
theorem readNew_at (c : PCfg) (th : Int) (hth : 0 ≤ th ∧ th ≤ 9223372036854775807) (key : ByteArray) (hk : key.size ≤ 9223372036854775807) (w : World) : Calls Tryz.prog 19 #[c.val, .int .i64 th, .string key] w fun e w' => ∃ b, e = .returned (.pointer (some ⟨b, 0, none⟩)) ∧ RAt readRout w.heap.size w' b (newRead c th key) ∧ Below w.heap.size w w' := by
  cases hc : c.right with
  | true =>
    have hR := (PCfg.right_iff c).1 hc
    refine (readNewR_any c hR th hth key w).mono ?_
    rintro e w' ⟨b, rb, rfl, hB, h1, h2, h3, h4, h5⟩
    have hn : newRead c th key = ⟨c, key, 1, 0, newPin c th, 0, 0, false, newFind c key, newChain 0 0, 0, false, ByteArray.empty, 0⟩ := by unfold newRead; rw [if_pos hc]
    rw [hn]
    refine ⟨b, rfl, ⟨fun k => w.heap.size ≤ k ∧ k < w'.heap.size, ⟨fun k hk => hk.2, ⟨h1, hB.lt⟩, _, _, _, hB, .inr ⟨⟨by show (1 : Int) ≤ 1 ∧ (1 : Int) ≤ 5; decide, hR, hk, fun h _ => by exact absurd h (by show ¬ (2 : Int) ≤ 1; decide), by show (0 : Int) ≤ 0 ∧ (0 : Int) ≤ 18446744073709551615; decide⟩, fun _ => ⟨rb, rfl, ⟨h2, h4.lies.blk.lt⟩, h3, h4, by show (1 : Int) ≠ 5; decide⟩, fun e => by simp at e, fun e => by simp at e⟩⟩, fun k hk => hk.1⟩, h5⟩
  | false =>
    refine (readNewN_any c hc th key w).mono ?_
    rintro e w' ⟨b, rfl, hB, h1, h5⟩
    have hn : newRead c th key = noRead := by unfold newRead; rw [if_neg (by rw [hc]; decide)]
    rw [hn]
    exact ⟨b, rfl, ⟨fun k => w.heap.size ≤ k ∧ k < w'.heap.size, ⟨fun k hk => hk.2, ⟨h1, hB.lt⟩, _, _, _, hB, .inl rfl⟩, fun k hk => hk.1⟩, h5⟩
end Go.Proofs.YtmlnhjfdhjachaaGreat
