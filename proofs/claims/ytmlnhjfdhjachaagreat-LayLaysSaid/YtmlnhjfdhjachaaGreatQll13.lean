import Derived.Lib.SliceRun
import Derived.Deep.RegionHeld3
import Derived.Test.YtmlnhjfdhjachaaGreatQll12
/-
  What laying does behind its parts (layer 30): next, change, look. No condition. (Printed by tools/ln.py.)
-/
namespace Go.Proofs.YtmlnhjfdhjachaaGreat
set_option linter.unusedVariables false
open Go.ChangeShapes Go.WideShapes Go.ChangeAt Go.RowKit
open Go.ChangeMaps (setBlock)

set_option maxRecDepth 100000 in
set_option maxHeartbeats 4000000 in
theorem lnNext0_any {w : World} {b : Nat} {c : PCfg} {part ep fk fs blk laid : Int} {fv vv : Value} {A : Option Addr} {cap : Nat} (hBc : Blk w b 144 #[.int .i64 c.cap, .int .i64 c.pins, .int .i64 c.shelves, .int .i64 c.queue, .int .i64 c.watchers, .int .u64 c.seed, .int .u64 ep, .slice A 0 cap, .int .i64 part, fv, .int .i64 fk, .int .i64 fs, vv, .int .u64 blk, .int .i64 laid]) :
    Calls Tryz.prog 72 #[.pointer (some ⟨b, 0, none⟩)] w fun e w' => e = .returned (.tuple #[]) ∧ Blk w' b 144 #[.int .i64 c.cap, .int .i64 c.pins, .int .i64 c.shelves, .int .i64 c.queue, .int .i64 c.watchers, .int .u64 c.seed, .int .u64 ep, .slice A 0 cap, .int .i64 7, fv, .int .i64 fk, .int .i64 fs, vv, .int .u64 blk, .int .i64 laid] ∧ Chg (fun k => k = b) w w' := by
  have hlt := hBc.lt
  have c7 := hBc.cell 7
  have c8 := hBc.cell 8
  have f8 := hBc.frozen 8
  have hB1 : Blk (w.setCell ⟨b, 8, none⟩ (.int .i64 7)) b 144 #[.int .i64 c.cap, .int .i64 c.pins, .int .i64 c.shelves, .int .i64 c.queue, .int .i64 c.watchers, .int .u64 c.seed, .int .u64 ep, .slice A 0 cap, .int .i64 7, fv, .int .i64 fk, .int .i64 fs, vv, .int .u64 blk, .int .i64 laid] := Blk.eq_cs (hBc.set_ 8 _) (by kernel_rfl)
  have hC1 : Chg (fun k => k = b) w (w.setCell ⟨b, 8, none⟩ (.int .i64 7)) := Chg.setCell (p := ⟨b, 8, none⟩) (Chg.refl (fun k => k = b) w) (.inl rfl) _
  replace hBc := Lib.hid hBc
  replace hB1 := Lib.hid hB1
  replace hC1 := Lib.hid hC1
  go_enter Tryz.func72, Tryz.ntmps72
  go_wp2_with fail
  first | exact bodyPost_end (v := .tuple #[]) (results_none (by kernel_rfl) _ _ _) rfl ⟨rfl, hB1.out, hC1.out⟩ | exact bodyPost_ret (v := .tuple #[]) (results_none (by kernel_rfl) _ _ _) rfl ⟨rfl, hB1.out, hC1.out⟩
set_option maxRecDepth 100000 in
set_option maxHeartbeats 4000000 in
theorem lnNext1_any {w : World} {b : Nat} {c : PCfg} {part ep fk fs blk laid : Int} {fv vv : Value} {ad : Addr} {n cap : Nat} {ky : ByteArray} (hBc : Blk w b 144 #[.int .i64 c.cap, .int .i64 c.pins, .int .i64 c.shelves, .int .i64 c.queue, .int .i64 c.watchers, .int .u64 c.seed, .int .u64 ep, .slice (some ad) n cap, .int .i64 part, fv, .int .i64 fk, .int .i64 fs, vv, .int .u64 blk, .int .i64 laid]) (hn : 0 < n) (had : ad.block < w.heap.size) (hadb : ad.block ≠ b) (hcl : w.cell? ad = some (.string ky)) (hky : ky.size ≤ 9223372036854775807) :
    Calls Tryz.prog 72 #[.pointer (some ⟨b, 0, none⟩)] w fun e w' => e = .returned (.tuple #[]) ∧ ∃ fb, Blk w' b 144 #[.int .i64 c.cap, .int .i64 c.pins, .int .i64 c.shelves, .int .i64 c.queue, .int .i64 c.watchers, .int .u64 c.seed, .int .u64 ep, .slice (some ad) n cap, .int .i64 1, .pointer (some ⟨fb, 0, none⟩), .int .i64 fk, .int .i64 fs, vv, .int .u64 blk, .int .i64 laid] ∧ FindIn w' fb (newFind c ky) ∧ w.heap.size ≤ fb ∧ Chg (fun k => k = b) w w' := by
  have hN := fun W => findNew_any c ky hky W
  rw [show c.val = .agg #[.int .i64 c.cap, .int .i64 c.pins, .int .i64 c.shelves, .int .i64 c.queue, .int .i64 c.watchers, .int .u64 c.seed] from rfl] at hN
  have hlt := hBc.lt
  have c7 := hBc.cell 7
  have c8 := hBc.cell 8
  have f8 := hBc.frozen 8
  have d0 : decide ((0 : Int) < (n : Int)) = true := by simp; omega
  have i0 : (0 : Int) ≤ 0 := by omega
  have i1 : (0 : Int) < (n : Int) := by omega
  have hB1 : Blk (w.setCell ⟨b, 8, none⟩ (.int .i64 7)) b 144 #[.int .i64 c.cap, .int .i64 c.pins, .int .i64 c.shelves, .int .i64 c.queue, .int .i64 c.watchers, .int .u64 c.seed, .int .u64 ep, .slice (some ad) n cap, .int .i64 7, fv, .int .i64 fk, .int .i64 fs, vv, .int .u64 blk, .int .i64 laid] := Blk.eq_cs (hBc.set_ 8 _) (by kernel_rfl)
  have hC1 : Chg (fun k => k = b) w (w.setCell ⟨b, 8, none⟩ (.int .i64 7)) := Chg.setCell (p := ⟨b, 8, none⟩) (Chg.refl (fun k => k = b) w) (.inl rfl) _
  have hcl1 : (w.setCell ⟨b, 8, none⟩ (.int .i64 7)).cell? ad = some (.string ky) := (World.cell?_of_block (Below.heap_setCell _ _ _ ad.block hadb)).trans hcl
  clear hcl
  replace hBc := Lib.hid hBc
  replace hB1 := Lib.hid hB1
  replace hC1 := Lib.hid hC1
  replace hcl1 := Lib.hid hcl1
  replace hN := Lib.hid hN
  replace hadb := Lib.hid hadb
  replace had := Lib.hid had
  go_enter Tryz.func72, Tryz.ntmps72
  go_upto_region 2 with fail
  refine gen_world (α := fun W' => Code.wp _ _ _ _ W') (fun W' => Blk W' b 144 #[.int .i64 c.cap, .int .i64 c.pins, .int .i64 c.shelves, .int .i64 c.queue, .int .i64 c.watchers, .int .u64 c.seed, .int .u64 ep, .slice (some ad) n cap, .int .i64 7, fv, .int .i64 fk, .int .i64 fs, vv, .int .u64 blk, .int .i64 laid] ∧ Chg (fun k => k = b) w W' ∧ W'.cell? ad = some (.string ky)) ⟨hB1.out, hC1.out, hcl1.out⟩ ?_
  rintro W' ⟨g1, g2, g3⟩
  have hs := g2.size
  have hltw := g1.lt
  have hHeld : (fun W : World => W.cell? ⟨b, 0, none⟩ = some (.int .i64 c.cap) ∧ W.cell? ⟨b, 1, none⟩ = some (.int .i64 c.pins) ∧ W.cell? ⟨b, 2, none⟩ = some (.int .i64 c.shelves) ∧ W.cell? ⟨b, 3, none⟩ = some (.int .i64 c.queue) ∧ W.cell? ⟨b, 4, none⟩ = some (.int .i64 c.watchers) ∧ W.cell? ⟨b, 5, none⟩ = some (.int .u64 c.seed) ∧ W.cell? ⟨b, 7, none⟩ = some (.slice (some ad) n cap) ∧ W.cell? ad = some (.string ky)) W'.drew := ⟨g1.cell 0, g1.cell 1, g1.cell 2, g1.cell 3, g1.cell 4, g1.cell 5, g1.cell 7, g3⟩
  clear c7 c8 f8
  replace g1 := Lib.hid g1
  replace g2 := Lib.hid g2
  replace g3 := Lib.hid g3
  refine wp_region_lex [(true, 0), (true, 1), (true, 2), (true, 3), (true, 4), (true, 5), (true, 6), (true, 7), (true, 8), (true, 9), (true, 10), (true, 11), (true, 12), (false, 13), (true, 14), (true, 15), (false, 16), (true, 17), (true, 18), (false, 19)] (fun W : World => W.cell? ⟨b, 0, none⟩ = some (.int .i64 c.cap) ∧ W.cell? ⟨b, 1, none⟩ = some (.int .i64 c.pins) ∧ W.cell? ⟨b, 2, none⟩ = some (.int .i64 c.shelves) ∧ W.cell? ⟨b, 3, none⟩ = some (.int .i64 c.queue) ∧ W.cell? ⟨b, 4, none⟩ = some (.int .i64 c.watchers) ∧ W.cell? ⟨b, 5, none⟩ = some (.int .u64 c.seed) ∧ W.cell? ⟨b, 7, none⟩ = some (.slice (some ad) n cap) ∧ W.cell? ad = some (.string ky)) (by kernel_rfl) (by kernel_rfl) (fun R hR => ?_)
  repeat (refine lex_take (v := ?_) rfl (by rfl) (by assumption) ?_ ?_; rotate_left 1; (focus (intro w hSw; (try dsimp only at hSw); go_simp; (try with_reducible rfl))); (try simp only [Act.put, List.setIfInBounds_toArray, List.set_cons_zero, List.set_cons_succ]))
  (refine lex_call rfl (by rfl) (fun K hq => ?_); go_simp)
  go_at_call 60; refine (hN.out _).mono ?_; rintro x w2 ⟨fb, rfl, hV, hfb, hb2⟩
  have hBw := Blk.below (w := W'.drew) g1.out hb2 hltw
  have hC2 : Chg (fun k => k = b) w w2 := g2.out.drew.next_ hb2
  have hfb' : w.heap.size ≤ fb := Nat.le_trans hs hfb
  have had2 : ad.block < W'.heap.size := Nat.lt_of_lt_of_le had.out hs
  have hcl2 : w2.cell? ad = some (.string ky) := (Below.cell (w := W'.drew) hb2 had2).trans g3.out
  have hcl5 : (w2.setCell ⟨b, 9, none⟩ (.pointer (some ⟨fb, 0, none⟩))).cell? ad = some (.string ky) := (World.cell?_of_block (Below.heap_setCell _ _ _ ad.block hadb.out)).trans hcl2
  have hcl6 : ((w2.setCell ⟨b, 9, none⟩ (.pointer (some ⟨fb, 0, none⟩))).setCell ⟨b, 8, none⟩ (.int .i64 1)).cell? ad = some (.string ky) := (World.cell?_of_block (Below.heap_setCell _ _ _ ad.block hadb.out)).trans hcl5
  have hfne : fb ≠ b := by have : W'.heap.size ≤ fb := hfb; omega
  have y9 := hBw.cell 9
  have yf9 := hBw.frozen 9
  have hltw2 := hBw.lt
  clear hHeld
  have hHeld : (fun W : World => W.cell? ⟨b, 0, none⟩ = some (.int .i64 c.cap) ∧ W.cell? ⟨b, 1, none⟩ = some (.int .i64 c.pins) ∧ W.cell? ⟨b, 2, none⟩ = some (.int .i64 c.shelves) ∧ W.cell? ⟨b, 3, none⟩ = some (.int .i64 c.queue) ∧ W.cell? ⟨b, 4, none⟩ = some (.int .i64 c.watchers) ∧ W.cell? ⟨b, 5, none⟩ = some (.int .u64 c.seed) ∧ W.cell? ⟨b, 7, none⟩ = some (.slice (some ad) n cap) ∧ W.cell? ad = some (.string ky)) w2 := ⟨hBw.cell 0, hBw.cell 1, hBw.cell 2, hBw.cell 3, hBw.cell 4, hBw.cell 5, hBw.cell 7, hcl2⟩
  clear hb2
  replace hBw := Lib.hid hBw
  replace hC2 := Lib.hid hC2
  replace hV := Lib.hid hV
  replace hcl5 := Lib.hid hcl5
  replace hcl6 := Lib.hid hcl6
  replace hfne := Lib.hid hfne
  (refine hq.out _ _ _ (fun _ h => h) hHeld ?_; clear hq K; (try simp only [Act.put, List.setIfInBounds_toArray, List.set_cons_zero, List.set_cons_succ]))
  repeat (refine lex_take (v := ?_) rfl (by rfl) (by assumption) ?_ ?_; rotate_left 1; (focus (intro w hSw; (try dsimp only at hSw); go_simp; (try with_reducible rfl))); (try simp only [Act.put, List.setIfInBounds_toArray, List.set_cons_zero, List.set_cons_succ]))
  (refine lex_call rfl (by rfl) (fun K hq => ?_); go_simp)
  have hB5 : Blk (w2.setCell ⟨b, 9, none⟩ (.pointer (some ⟨fb, 0, none⟩))) b 144 #[.int .i64 c.cap, .int .i64 c.pins, .int .i64 c.shelves, .int .i64 c.queue, .int .i64 c.watchers, .int .u64 c.seed, .int .u64 ep, .slice (some ad) n cap, .int .i64 7, .pointer (some ⟨fb, 0, none⟩), .int .i64 fk, .int .i64 fs, vv, .int .u64 blk, .int .i64 laid] := Blk.eq_cs (hBw.out.set_ 9 _) (by kernel_rfl)
  have y8 := hB5.cell 8
  have yf8 := hB5.frozen 8
  clear hHeld
  have hHeld : (fun W : World => W.cell? ⟨b, 0, none⟩ = some (.int .i64 c.cap) ∧ W.cell? ⟨b, 1, none⟩ = some (.int .i64 c.pins) ∧ W.cell? ⟨b, 2, none⟩ = some (.int .i64 c.shelves) ∧ W.cell? ⟨b, 3, none⟩ = some (.int .i64 c.queue) ∧ W.cell? ⟨b, 4, none⟩ = some (.int .i64 c.watchers) ∧ W.cell? ⟨b, 5, none⟩ = some (.int .u64 c.seed) ∧ W.cell? ⟨b, 7, none⟩ = some (.slice (some ad) n cap) ∧ W.cell? ad = some (.string ky)) (w2.setCell ⟨b, 9, none⟩ (.pointer (some ⟨fb, 0, none⟩))) := ⟨hB5.cell 0, hB5.cell 1, hB5.cell 2, hB5.cell 3, hB5.cell 4, hB5.cell 5, hB5.cell 7, hcl5.out⟩
  (refine hq.out _ _ _ (fun _ h => h) hHeld ?_; clear hq K; (try simp only [Act.put, List.setIfInBounds_toArray, List.set_cons_zero, List.set_cons_succ]))
  repeat (refine lex_take (v := ?_) rfl (by rfl) (by assumption) ?_ ?_; rotate_left 1; (focus (intro w hSw; (try dsimp only at hSw); go_simp; (try with_reducible rfl))); (try simp only [Act.put, List.setIfInBounds_toArray, List.set_cons_zero, List.set_cons_succ]))
  (refine lex_call rfl (by rfl) (fun K hq => ?_); go_simp)
  have hB6 : Blk ((w2.setCell ⟨b, 9, none⟩ (.pointer (some ⟨fb, 0, none⟩))).setCell ⟨b, 8, none⟩ (.int .i64 1)) b 144 #[.int .i64 c.cap, .int .i64 c.pins, .int .i64 c.shelves, .int .i64 c.queue, .int .i64 c.watchers, .int .u64 c.seed, .int .u64 ep, .slice (some ad) n cap, .int .i64 1, .pointer (some ⟨fb, 0, none⟩), .int .i64 fk, .int .i64 fs, vv, .int .u64 blk, .int .i64 laid] := Blk.eq_cs (hB5.set_ 8 _) (by kernel_rfl)
  clear hHeld
  have hHeld : (fun W : World => W.cell? ⟨b, 0, none⟩ = some (.int .i64 c.cap) ∧ W.cell? ⟨b, 1, none⟩ = some (.int .i64 c.pins) ∧ W.cell? ⟨b, 2, none⟩ = some (.int .i64 c.shelves) ∧ W.cell? ⟨b, 3, none⟩ = some (.int .i64 c.queue) ∧ W.cell? ⟨b, 4, none⟩ = some (.int .i64 c.watchers) ∧ W.cell? ⟨b, 5, none⟩ = some (.int .u64 c.seed) ∧ W.cell? ⟨b, 7, none⟩ = some (.slice (some ad) n cap) ∧ W.cell? ad = some (.string ky)) ((w2.setCell ⟨b, 9, none⟩ (.pointer (some ⟨fb, 0, none⟩))).setCell ⟨b, 8, none⟩ (.int .i64 1)) := ⟨hB6.cell 0, hB6.cell 1, hB6.cell 2, hB6.cell 3, hB6.cell 4, hB6.cell 5, hB6.cell 7, hcl6.out⟩
  (refine hq.out _ _ _ (fun _ h => h) hHeld ?_; clear hq K; (try simp only [Act.put, List.setIfInBounds_toArray, List.set_cons_zero, List.set_cons_succ]))
  refine lex_end (hR.out _ _ ?_)
  have hfin : Blk ((w2.setCell ⟨b, 9, none⟩ (.pointer (some ⟨fb, 0, none⟩))).setCell ⟨b, 8, none⟩ (.int .i64 1)) b 144 #[.int .i64 c.cap, .int .i64 c.pins, .int .i64 c.shelves, .int .i64 c.queue, .int .i64 c.watchers, .int .u64 c.seed, .int .u64 ep, .slice (some ad) n cap, .int .i64 1, .pointer (some ⟨fb, 0, none⟩), .int .i64 fk, .int .i64 fs, vv, .int .u64 blk, .int .i64 laid] ∧ FindIn ((w2.setCell ⟨b, 9, none⟩ (.pointer (some ⟨fb, 0, none⟩))).setCell ⟨b, 8, none⟩ (.int .i64 1)) fb (newFind c ky) ∧ w.heap.size ≤ fb ∧ Chg (fun k => k = b) w ((w2.setCell ⟨b, 9, none⟩ (.pointer (some ⟨fb, 0, none⟩))).setCell ⟨b, 8, none⟩ (.int .i64 1)) :=
    ⟨hB6, hV.out.keep ((Below.heap_setCell _ _ _ fb hfne.out).trans (Below.heap_setCell _ _ _ fb hfne.out)), hfb', Chg.setCell (p := ⟨b, 8, none⟩) (Chg.setCell (p := ⟨b, 9, none⟩) hC2.out (.inl rfl) _) (.inl rfl) _⟩
  clear hR R hHeld
  replace hfin := Lib.hid hfin
  replace hB5 := Lib.hid hB5
  replace hB6 := Lib.hid hB6
  go_wp2_with fail
  first | exact bodyPost_end (v := .tuple #[]) (results_none (by kernel_rfl) _ _ _) rfl ⟨rfl, fb, hfin.out⟩ | exact bodyPost_ret (v := .tuple #[]) (results_none (by kernel_rfl) _ _ _) rfl ⟨rfl, fb, hfin.out⟩
set_option maxRecDepth 100000 in
set_option maxHeartbeats 4000000 in
theorem lnChange_any {w : World} {b : Nat} {c : PCfg} {part ep fk fs blk laid : Int} {fv vv : Value} {ad : Addr} {n cap : Nat} {A2 : Option Addr} (hA2 : (if cap = 1 then some ad else some ⟨ad.block, ad.off + 3, none⟩ : Option Addr) = A2) (hBc : Blk w b 144 #[.int .i64 c.cap, .int .i64 c.pins, .int .i64 c.shelves, .int .i64 c.queue, .int .i64 c.watchers, .int .u64 c.seed, .int .u64 ep, .slice (some ad) n cap, .int .i64 part, fv, .int .i64 fk, .int .i64 fs, vv, .int .u64 blk, .int .i64 laid]) (hn : 0 < n) (hcap : n ≤ cap) {Post : World → World → Prop}
    (hNx : ∀ W, Blk W b 144 #[.int .i64 c.cap, .int .i64 c.pins, .int .i64 c.shelves, .int .i64 c.queue, .int .i64 c.watchers, .int .u64 c.seed, .int .u64 ep, .slice A2 (n - 1) (cap - 1), .int .i64 part, fv, .int .i64 fk, .int .i64 fs, vv, .int .u64 blk, .int .i64 laid] → Chg (fun k => k = b) w W → Calls Tryz.prog 72 #[.pointer (some ⟨b, 0, none⟩)] W fun e w' => e = .returned (.tuple #[]) ∧ Post W w') :
    Calls Tryz.prog 170 #[.pointer (some ⟨b, 0, none⟩)] w fun e w' => e = .returned (.tuple #[]) ∧ ∃ W, Blk W b 144 #[.int .i64 c.cap, .int .i64 c.pins, .int .i64 c.shelves, .int .i64 c.queue, .int .i64 c.watchers, .int .u64 c.seed, .int .u64 ep, .slice A2 (n - 1) (cap - 1), .int .i64 part, fv, .int .i64 fk, .int .i64 fs, vv, .int .u64 blk, .int .i64 laid] ∧ Chg (fun k => k = b) w W ∧ Post W w' := by
  have hlt := hBc.lt
  have c7 := hBc.cell 7
  have f7 := hBc.frozen 7
  have i0 : (0 : Int) ≤ 1 := by omega
  have i1 : (1 : Int) ≤ (n : Int) := by omega
  have i2 : (n : Int) ≤ (cap : Int) := by omega
  replace hBc := Lib.hid hBc
  replace hNx := Lib.hid hNx
  replace hA2 := Lib.hid hA2
  go_enter Tryz.func170, Tryz.ntmps170
  go_upto_region 1 with fail
  rw [hA2.out]
  have hB1 : Blk (w.setCell ⟨b, 7, none⟩ (.slice A2 (n - 1) (cap - 1))) b 144 #[.int .i64 c.cap, .int .i64 c.pins, .int .i64 c.shelves, .int .i64 c.queue, .int .i64 c.watchers, .int .u64 c.seed, .int .u64 ep, .slice A2 (n - 1) (cap - 1), .int .i64 part, fv, .int .i64 fk, .int .i64 fs, vv, .int .u64 blk, .int .i64 laid] := Blk.eq_cs (hBc.out.set_ 7 _) (by kernel_rfl)
  have hC1 : Chg (fun k => k = b) w (w.setCell ⟨b, 7, none⟩ (.slice A2 (n - 1) (cap - 1))) := Chg.setCell (p := ⟨b, 7, none⟩) (Chg.refl (fun k => k = b) w) (.inl rfl) _
  have hNx1 := hNx.out _ hB1 hC1
  replace hB1 := Lib.hid hB1
  replace hC1 := Lib.hid hC1
  replace hNx1 := Lib.hid hNx1
  go_wp2_with fail
  refine (hNx1.out).mono ?_; rintro e w2 ⟨rfl, hp⟩
  replace hp := Lib.hid hp
  go_wp2_with fail
  first | exact bodyPost_end (v := .tuple #[]) (results_none (by kernel_rfl) _ _ _) rfl ⟨rfl, _, hB1.out, hC1.out, hp.out⟩ | exact bodyPost_ret (v := .tuple #[]) (results_none (by kernel_rfl) _ _ _) rfl ⟨rfl, _, hB1.out, hC1.out, hp.out⟩
set_option maxRecDepth 100000 in
set_option maxHeartbeats 4000000 in
theorem lnLookN_any {w : World} {b : Nat} {c : PCfg} {part ep fk fs blk laid : Int} {lv vv : Value} {rb : Nat} (hBc : Blk w b 144 #[.int .i64 c.cap, .int .i64 c.pins, .int .i64 c.shelves, .int .i64 c.queue, .int .i64 c.watchers, .int .u64 c.seed, .int .u64 ep, lv, .int .i64 part, .pointer (some ⟨rb, 0, none⟩), .int .i64 fk, .int .i64 fs, vv, .int .u64 blk, .int .i64 laid])
    (hR : ∀ W : World, Below w.heap.size w W → Calls Tryz.prog 61 #[.pointer (some ⟨rb, 0, none⟩)] W fun x w' => x = .returned (.tuple #[.agg #[.int .i64 0, .int .i64 0], .bool false]) ∧ Below W.heap.size W w') :
    Calls Tryz.prog 171 #[.pointer (some ⟨b, 0, none⟩)] w fun e w' => e = .returned (.tuple #[]) ∧ Below w.heap.size w w' := by
  have hR0 := hR w (Below.refl _ _)
  have hlt := hBc.lt
  have c9 := hBc.cell 9
  replace hBc := Lib.hid hBc
  replace hR0 := Lib.hid hR0
  go_enter Tryz.func171, Tryz.ntmps171
  go_wp2
  go_step3
  go_wp2_with fail
  refine (hR0.out).mono ?_; rintro e w1 ⟨rfl, hb1⟩
  have hb2 := Below.more_ hb1 (.cells #[.int .i64 0, .int .i64 0] 120)
  replace hb1 := Lib.hid hb1
  replace hb2 := Lib.hid hb2
  go_wp2_with fail
  go_step3
  go_wp2_with fail
  rw [Exit.noGoto_normal]
  first | exact bodyPost_end (v := .tuple #[]) (results_none (by kernel_rfl) _ _ _) rfl ⟨rfl, hb2.out⟩ | exact bodyPost_ret (v := .tuple #[]) (results_none (by kernel_rfl) _ _ _) rfl ⟨rfl, hb2.out⟩
set_option maxRecDepth 100000 in
set_option maxHeartbeats 4000000 in
theorem lnLookT_any {w : World} {b : Nat} {c : PCfg} {part ep fk fs blk laid : Int} {lv vv : Value} {rb : Nat} {sh : Int} (hBc : Blk w b 144 #[.int .i64 c.cap, .int .i64 c.pins, .int .i64 c.shelves, .int .i64 c.queue, .int .i64 c.watchers, .int .u64 c.seed, .int .u64 ep, lv, .int .i64 part, .pointer (some ⟨rb, 0, none⟩), .int .i64 fk, .int .i64 fs, vv, .int .u64 blk, .int .i64 laid]) {Post : World → World → Prop}
    (hR : ∀ W : World, Below w.heap.size w W → Calls Tryz.prog 61 #[.pointer (some ⟨rb, 0, none⟩)] W fun x w' => x = .returned (.tuple #[.agg #[.int .i64 3, .int .i64 sh], .bool true]) ∧ Below W.heap.size W w')
    (hCh : ∀ W, Below w.heap.size w W → Calls Tryz.prog 170 #[.pointer (some ⟨b, 0, none⟩)] W fun e w' => e = .returned (.tuple #[]) ∧ Post W w') :
    Calls Tryz.prog 171 #[.pointer (some ⟨b, 0, none⟩)] w fun e w' => e = .returned (.tuple #[]) ∧ ∃ W, Below w.heap.size w W ∧ Post W w' := by
  have hR0 := hR w (Below.refl _ _)
  have hlt := hBc.lt
  have c9 := hBc.cell 9
  replace hBc := Lib.hid hBc
  replace hR0 := Lib.hid hR0
  replace hCh := Lib.hid hCh
  go_enter Tryz.func171, Tryz.ntmps171
  go_wp2
  go_step3
  go_wp2_with fail
  refine (hR0.out).mono ?_; rintro e w1 ⟨rfl, hb1⟩
  have hb2 := Below.more_ hb1 (.cells #[.int .i64 3, .int .i64 sh] 120)
  have B2 := Blk.new w1 120 #[.int .i64 3, .int .i64 sh]
  have q0 := B2.cell 0
  have hlq := B2.lt
  have hCh2 := hCh.out _ hb2
  replace hb1 := Lib.hid hb1
  replace hb2 := Lib.hid hb2
  replace B2 := Lib.hid B2
  replace hCh2 := Lib.hid hCh2
  go_wp2_with fail
  go_step3
  go_wp2_with fail
  refine (hCh2.out).mono ?_; rintro e w3 ⟨rfl, hp⟩
  replace hp := Lib.hid hp
  go_wp2_with fail
  rw [Exit.noGoto_normal]
  first | exact bodyPost_end (v := .tuple #[]) (results_none (by kernel_rfl) _ _ _) rfl ⟨rfl, _, hb2.out, hp.out⟩ | exact bodyPost_ret (v := .tuple #[]) (results_none (by kernel_rfl) _ _ _) rfl ⟨rfl, _, hb2.out, hp.out⟩
set_option maxRecDepth 100000 in
set_option maxHeartbeats 4000000 in
theorem lnLookY_any {w : World} {b : Nat} {c : PCfg} {part ep fk fs blk laid : Int} {lv vv : Value} {rb : Nat} {kd sh : Int} (hBc : Blk w b 144 #[.int .i64 c.cap, .int .i64 c.pins, .int .i64 c.shelves, .int .i64 c.queue, .int .i64 c.watchers, .int .u64 c.seed, .int .u64 ep, lv, .int .i64 part, .pointer (some ⟨rb, 0, none⟩), .int .i64 fk, .int .i64 fs, vv, .int .u64 blk, .int .i64 laid]) (hk3 : kd ≠ 3)
    (hR : ∀ W : World, Below w.heap.size w W → Calls Tryz.prog 61 #[.pointer (some ⟨rb, 0, none⟩)] W fun x w' => x = .returned (.tuple #[.agg #[.int .i64 kd, .int .i64 sh], .bool true]) ∧ Below W.heap.size W w') :
    Calls Tryz.prog 171 #[.pointer (some ⟨b, 0, none⟩)] w fun e w' => e = .returned (.tuple #[]) ∧ Blk w' b 144 #[.int .i64 c.cap, .int .i64 c.pins, .int .i64 c.shelves, .int .i64 c.queue, .int .i64 c.watchers, .int .u64 c.seed, .int .u64 ep, lv, .int .i64 2, .pointer (some ⟨rb, 0, none⟩), .int .i64 kd, .int .i64 sh, vv, .int .u64 blk, .int .i64 laid] ∧ Chg (fun k => k = b) w w' := by
  have hR0 := hR w (Below.refl _ _)
  have hlt := hBc.lt
  have c9 := hBc.cell 9
  have d3 : (kd == 3) = false := by simpa using hk3
  replace hBc := Lib.hid hBc
  replace hR0 := Lib.hid hR0
  replace hk3 := Lib.hid hk3
  go_enter Tryz.func171, Tryz.ntmps171
  go_wp2
  go_step3
  go_wp2_with fail
  refine (hR0.out).mono ?_; rintro e w1 ⟨rfl, hb1⟩
  have hb2 := Below.more_ hb1 (.cells #[.int .i64 kd, .int .i64 sh] 120)
  have B2 := Blk.new w1 120 #[.int .i64 kd, .int .i64 sh]
  have q0 := B2.cell 0
  have q1 := B2.cell 1
  have hlq := B2.lt
  have L2 := hBc.out.below hb2 hBc.out.lt
  have hC2 := Chg.of_below hb2 (fun k => k = b)
  have y8 := L2.cell 8
  have y10 := L2.cell 10
  have y11 := L2.cell 11
  have f8 := L2.frozen 8
  have f10 := L2.frozen 10
  have f11 := L2.frozen 11
  have hl2 := L2.lt
  clear c9
  replace hb1 := Lib.hid hb1
  replace hb2 := Lib.hid hb2
  replace B2 := Lib.hid B2
  replace L2 := Lib.hid L2
  replace hC2 := Lib.hid hC2
  go_wp2_with fail
  go_step3
  go_wp2_with fail
  rw [Exit.noGoto_normal]
  refine gen_world (α := fun W' => bodyPost _ _ _ _ _ W') (fun W' => Blk W' b 144 #[.int .i64 c.cap, .int .i64 c.pins, .int .i64 c.shelves, .int .i64 c.queue, .int .i64 c.watchers, .int .u64 c.seed, .int .u64 ep, lv, .int .i64 2, .pointer (some ⟨rb, 0, none⟩), .int .i64 kd, .int .i64 sh, vv, .int .u64 blk, .int .i64 laid] ∧ Chg (fun k => k = b) w W') ⟨?_, ?_⟩ ?_
  · refine Blk.eq_cs (cs := ((((#[.int .i64 c.cap, .int .i64 c.pins, .int .i64 c.shelves, .int .i64 c.queue, .int .i64 c.watchers, .int .u64 c.seed, .int .u64 ep, lv, .int .i64 part, .pointer (some ⟨rb, 0, none⟩), .int .i64 fk, .int .i64 fs, vv, .int .u64 blk, .int .i64 laid] : Array Value).setIfInBounds 10 (.int .i64 kd)).setIfInBounds 11 (.int .i64 sh)).setIfInBounds 8 (.int .i64 2))) ?_ (by kernel_rfl)
    have hB := L2.out
    (repeat first | with_reducible exact hB | with_reducible refine Blk.drewN ?_ _ | with_reducible refine Blk.drew ?_ | with_reducible refine Blk.alloc ?_ _ | with_reducible refine Blk.set_ ?_ _ _ | refine Blk.far ?_ (by simp; omega) _)
  · have hC := hC2.out
    repeat first | with_reducible exact hC | with_reducible refine Chg.drew ?_ | with_reducible refine Chg.drewN ?_ _ | with_reducible refine Chg.alloc ?_ _ | refine Chg.setCell ?_ (by left; rfl) _
  rintro W' ⟨g1, g2⟩
  first | exact bodyPost_end (v := .tuple #[]) (results_none (by kernel_rfl) _ _ _) rfl ⟨rfl, g1, g2⟩ | exact bodyPost_ret (v := .tuple #[]) (results_none (by kernel_rfl) _ _ _) rfl ⟨rfl, g1, g2⟩
end Go.Proofs.YtmlnhjfdhjachaaGreat

/-
  What laying takes (layer 30), part by part. No condition. (Printed by tools/ln.py.)
-/
namespace Go.Proofs.YtmlnhjfdhjachaaGreat
set_option linter.unusedVariables false
open Go.ChangeShapes Go.WideShapes Go.ChangeAt Go.RowKit
open Go.ChangeMaps (setBlock)

set_option maxRecDepth 100000 in
set_option maxHeartbeats 4000000 in
theorem lnTake7_any {w : World} {b : Nat} {c : PCfg} {ep fk fs blk laid : Int} {lv fv vv : Value} {gw : Int} {gt : ByteArray} (hBc : Blk w b 144 #[.int .i64 c.cap, .int .i64 c.pins, .int .i64 c.shelves, .int .i64 c.queue, .int .i64 c.watchers, .int .u64 c.seed, .int .u64 ep, lv, .int .i64 7, fv, .int .i64 fk, .int .i64 fs, vv, .int .u64 blk, .int .i64 laid]) :
    Calls Tryz.prog 169 #[.pointer (some ⟨b, 0, none⟩), .agg #[.int .u64 gw, .string gt]] w fun e w' => e = .returned (.tuple #[]) ∧ Blk w' b 144 #[.int .i64 c.cap, .int .i64 c.pins, .int .i64 c.shelves, .int .i64 c.queue, .int .i64 c.watchers, .int .u64 c.seed, .int .u64 ep, lv, .int .i64 8, fv, .int .i64 fk, .int .i64 fs, vv, .int .u64 blk, .int .i64 laid] ∧ Chg (fun k => k = b) w w' := by
  have hlt := hBc.lt
  have c8 := hBc.cell 8
  have c13 := hBc.cell 13
  have f8 := hBc.frozen 8
  have f13 := hBc.frozen 13
  have hG := Blk.new w 52 #[.int .u64 gw, .string gt]
  have g0 := hG.cell 0
  replace hBc := Lib.hid hBc
  replace hG := Lib.hid hG
  go_enter Tryz.func169, Tryz.ntmps169
  go_wp2_with fail
  refine gen_world (α := fun W' => bodyPost _ _ _ _ _ W') (fun W' => Blk W' b 144 #[.int .i64 c.cap, .int .i64 c.pins, .int .i64 c.shelves, .int .i64 c.queue, .int .i64 c.watchers, .int .u64 c.seed, .int .u64 ep, lv, .int .i64 8, fv, .int .i64 fk, .int .i64 fs, vv, .int .u64 blk, .int .i64 laid] ∧ Chg (fun k => k = b) w W') ⟨?_, ?_⟩ ?_
  · refine Blk.eq_cs (cs := ((#[.int .i64 c.cap, .int .i64 c.pins, .int .i64 c.shelves, .int .i64 c.queue, .int .i64 c.watchers, .int .u64 c.seed, .int .u64 ep, lv, .int .i64 7, fv, .int .i64 fk, .int .i64 fs, vv, .int .u64 blk, .int .i64 laid] : Array Value).setIfInBounds 8 (.int .i64 8))) ?_ (by kernel_rfl)
    have hB := hBc.out
    (repeat first | with_reducible exact hB | with_reducible refine Blk.drewN ?_ _ | with_reducible refine Blk.drew ?_ | with_reducible refine Blk.alloc ?_ _ | with_reducible refine Blk.set_ ?_ _ _ | refine Blk.far ?_ (by simp; omega) _)
  · have hC := Chg.refl (fun k => k = b) w
    repeat first | with_reducible exact hC | with_reducible refine Chg.drew ?_ | with_reducible refine Chg.drewN ?_ _ | with_reducible refine Chg.alloc ?_ _ | refine Chg.setCell ?_ (by left; rfl) _
  rintro W' ⟨g1, g2⟩
  first | exact bodyPost_end (v := .tuple #[]) (results_none (by kernel_rfl) _ _ _) rfl ⟨rfl, g1, g2⟩ | exact bodyPost_ret (v := .tuple #[]) (results_none (by kernel_rfl) _ _ _) rfl ⟨rfl, g1, g2⟩
set_option maxRecDepth 100000 in
set_option maxHeartbeats 4000000 in
theorem lnTake5_any {w : World} {b : Nat} {c : PCfg} {ep fk fs blk laid : Int} {lv fv vv : Value} {gw : Int} {gt : ByteArray} (hBc : Blk w b 144 #[.int .i64 c.cap, .int .i64 c.pins, .int .i64 c.shelves, .int .i64 c.queue, .int .i64 c.watchers, .int .u64 c.seed, .int .u64 ep, lv, .int .i64 5, fv, .int .i64 fk, .int .i64 fs, vv, .int .u64 blk, .int .i64 laid]) :
    Calls Tryz.prog 169 #[.pointer (some ⟨b, 0, none⟩), .agg #[.int .u64 gw, .string gt]] w fun e w' => e = .returned (.tuple #[]) ∧ Blk w' b 144 #[.int .i64 c.cap, .int .i64 c.pins, .int .i64 c.shelves, .int .i64 c.queue, .int .i64 c.watchers, .int .u64 c.seed, .int .u64 ep, lv, .int .i64 6, fv, .int .i64 fk, .int .i64 fs, vv, .int .u64 gw, .int .i64 laid] ∧ Chg (fun k => k = b) w w' := by
  have hlt := hBc.lt
  have c8 := hBc.cell 8
  have c13 := hBc.cell 13
  have f8 := hBc.frozen 8
  have f13 := hBc.frozen 13
  have hG := Blk.new w 52 #[.int .u64 gw, .string gt]
  have g0 := hG.cell 0
  replace hBc := Lib.hid hBc
  replace hG := Lib.hid hG
  go_enter Tryz.func169, Tryz.ntmps169
  go_wp2_with fail
  refine gen_world (α := fun W' => bodyPost _ _ _ _ _ W') (fun W' => Blk W' b 144 #[.int .i64 c.cap, .int .i64 c.pins, .int .i64 c.shelves, .int .i64 c.queue, .int .i64 c.watchers, .int .u64 c.seed, .int .u64 ep, lv, .int .i64 6, fv, .int .i64 fk, .int .i64 fs, vv, .int .u64 gw, .int .i64 laid] ∧ Chg (fun k => k = b) w W') ⟨?_, ?_⟩ ?_
  · refine Blk.eq_cs (cs := (((#[.int .i64 c.cap, .int .i64 c.pins, .int .i64 c.shelves, .int .i64 c.queue, .int .i64 c.watchers, .int .u64 c.seed, .int .u64 ep, lv, .int .i64 5, fv, .int .i64 fk, .int .i64 fs, vv, .int .u64 blk, .int .i64 laid] : Array Value).setIfInBounds 13 (.int .u64 gw)).setIfInBounds 8 (.int .i64 6))) ?_ (by kernel_rfl)
    have hB := hBc.out
    (repeat first | with_reducible exact hB | with_reducible refine Blk.drewN ?_ _ | with_reducible refine Blk.drew ?_ | with_reducible refine Blk.alloc ?_ _ | with_reducible refine Blk.set_ ?_ _ _ | refine Blk.far ?_ (by simp; omega) _)
  · have hC := Chg.refl (fun k => k = b) w
    repeat first | with_reducible exact hC | with_reducible refine Chg.drew ?_ | with_reducible refine Chg.drewN ?_ _ | with_reducible refine Chg.alloc ?_ _ | refine Chg.setCell ?_ (by left; rfl) _
  rintro W' ⟨g1, g2⟩
  first | exact bodyPost_end (v := .tuple #[]) (results_none (by kernel_rfl) _ _ _) rfl ⟨rfl, g1, g2⟩ | exact bodyPost_ret (v := .tuple #[]) (results_none (by kernel_rfl) _ _ _) rfl ⟨rfl, g1, g2⟩
set_option maxRecDepth 100000 in
set_option maxHeartbeats 4000000 in
theorem lnTake6_any {w : World} {b : Nat} {c : PCfg} {ep fk fs blk laid : Int} {lv fv vv : Value} {gw : Int} {gt : ByteArray} (hBc : Blk w b 144 #[.int .i64 c.cap, .int .i64 c.pins, .int .i64 c.shelves, .int .i64 c.queue, .int .i64 c.watchers, .int .u64 c.seed, .int .u64 ep, lv, .int .i64 6, fv, .int .i64 fk, .int .i64 fs, vv, .int .u64 blk, .int .i64 laid]) {Post : World → World → Prop}
    (hCh : ∀ W, Below w.heap.size w W → Calls Tryz.prog 170 #[.pointer (some ⟨b, 0, none⟩)] W fun e w' => e = .returned (.tuple #[]) ∧ Post W w') :
    Calls Tryz.prog 169 #[.pointer (some ⟨b, 0, none⟩), .agg #[.int .u64 gw, .string gt]] w fun e w' => e = .returned (.tuple #[]) ∧ ∃ W, Below w.heap.size w W ∧ Post W w' := by
  have hlt := hBc.lt
  have c8 := hBc.cell 8
  have hb1 : Below w.heap.size w (w.alloc (.cells #[.int .u64 gw, .string gt] 52)) := (Below.refl _ _).alloc (Nat.le_refl _) _
  have hCh1 := hCh _ hb1
  replace hBc := Lib.hid hBc
  replace hb1 := Lib.hid hb1
  replace hCh1 := Lib.hid hCh1
  go_enter Tryz.func169, Tryz.ntmps169
  go_wp2_with fail
  refine (hCh1.out).mono ?_; rintro e w3 ⟨rfl, hp⟩
  replace hp := Lib.hid hp
  go_wp2_with fail
  first | exact bodyPost_end (v := .tuple #[]) (results_none (by kernel_rfl) _ _ _) rfl ⟨rfl, _, hb1.out, hp.out⟩ | exact bodyPost_ret (v := .tuple #[]) (results_none (by kernel_rfl) _ _ _) rfl ⟨rfl, _, hb1.out, hp.out⟩
set_option maxRecDepth 100000 in
set_option maxHeartbeats 4000000 in
theorem lnTake4Y_any {w : World} {b : Nat} {c : PCfg} {ep fk fs blk laid : Int} {lv fv vv : Value} {gw : Int} {gt : ByteArray} (hBc : Blk w b 144 #[.int .i64 c.cap, .int .i64 c.pins, .int .i64 c.shelves, .int .i64 c.queue, .int .i64 c.watchers, .int .u64 c.seed, .int .u64 ep, lv, .int .i64 4, fv, .int .i64 fk, .int .i64 fs, vv, .int .u64 blk, .int .i64 laid]) (hfk : fk = 1) (hla : 0 ≤ laid ∧ laid ≤ 1000000) {Post : World → World → Prop}
    (hCh : ∀ W, Blk W b 144 #[.int .i64 c.cap, .int .i64 c.pins, .int .i64 c.shelves, .int .i64 c.queue, .int .i64 c.watchers, .int .u64 c.seed, .int .u64 ep, lv, .int .i64 5, fv, .int .i64 fk, .int .i64 fs, vv, .int .u64 blk, .int .i64 (laid + 1)] → Chg (fun k => k = b) w W → Calls Tryz.prog 170 #[.pointer (some ⟨b, 0, none⟩)] W fun e w' => e = .returned (.tuple #[]) ∧ Post W w') :
    Calls Tryz.prog 169 #[.pointer (some ⟨b, 0, none⟩), .agg #[.int .u64 gw, .string gt]] w fun e w' => e = .returned (.tuple #[]) ∧ ∃ W, Blk W b 144 #[.int .i64 c.cap, .int .i64 c.pins, .int .i64 c.shelves, .int .i64 c.queue, .int .i64 c.watchers, .int .u64 c.seed, .int .u64 ep, lv, .int .i64 5, fv, .int .i64 fk, .int .i64 fs, vv, .int .u64 blk, .int .i64 (laid + 1)] ∧ Chg (fun k => k = b) w W ∧ Post W w' := by
  have hlt := hBc.lt
  have c8 := hBc.cell 8
  have c10 := hBc.cell 10
  have c14 := hBc.cell 14
  have f8 := hBc.frozen 8
  have f14 := hBc.frozen 14
  have d1 : (fk == 1) = true := by simp [hfk]
  have hw : wrap64 (laid + 1) = laid + 1 := by unfold wrap64; omega
  replace hBc := Lib.hid hBc
  replace hfk := Lib.hid hfk
  replace hw := Lib.hid hw
  replace hCh := Lib.hid hCh
  go_enter Tryz.func169, Tryz.ntmps169
  go_upto_region 17 with fail
  refine gen_world (α := fun W' => Code.wp _ _ _ _ W') (fun W' => Blk W' b 144 #[.int .i64 c.cap, .int .i64 c.pins, .int .i64 c.shelves, .int .i64 c.queue, .int .i64 c.watchers, .int .u64 c.seed, .int .u64 ep, lv, .int .i64 5, fv, .int .i64 fk, .int .i64 fs, vv, .int .u64 blk, .int .i64 (laid + 1)] ∧ Chg (fun k => k = b) w W') ⟨?_, ?_⟩ ?_
  · refine Blk.eq_cs (cs := (((#[.int .i64 c.cap, .int .i64 c.pins, .int .i64 c.shelves, .int .i64 c.queue, .int .i64 c.watchers, .int .u64 c.seed, .int .u64 ep, lv, .int .i64 4, fv, .int .i64 fk, .int .i64 fs, vv, .int .u64 blk, .int .i64 laid] : Array Value).setIfInBounds 14 (.int .i64 (laid + 1))).setIfInBounds 8 (.int .i64 5))) ?_ (by kernel_rfl)
    have hB := hBc.out
    (repeat first | with_reducible exact hB | with_reducible refine Blk.drewN ?_ _ | with_reducible refine Blk.drew ?_ | with_reducible refine Blk.alloc ?_ _ | with_reducible refine Blk.set_ ?_ _ _ | refine Blk.far ?_ (by simp; omega) _)
  · have hC := Chg.refl (fun k => k = b) w
    repeat first | with_reducible exact hC | with_reducible refine Chg.drew ?_ | with_reducible refine Chg.drewN ?_ _ | with_reducible refine Chg.alloc ?_ _ | refine Chg.setCell ?_ (by left; rfl) _
  rintro W' ⟨g1, g2⟩
  have hC := hCh.out W' g1 g2
  replace g1 := Lib.hid g1
  replace g2 := Lib.hid g2
  replace hC := Lib.hid hC
  go_wp2_with fail
  refine (hC.out).mono ?_; rintro e w3 ⟨rfl, hp⟩
  replace hp := Lib.hid hp
  go_wp2_with fail
  first | exact bodyPost_end (v := .tuple #[]) (results_none (by kernel_rfl) _ _ _) rfl ⟨rfl, W', g1.out, g2.out, hp.out⟩ | exact bodyPost_ret (v := .tuple #[]) (results_none (by kernel_rfl) _ _ _) rfl ⟨rfl, W', g1.out, g2.out, hp.out⟩
set_option maxRecDepth 100000 in
set_option maxHeartbeats 4000000 in
theorem lnTake4N_any {w : World} {b : Nat} {c : PCfg} {ep fk fs blk laid : Int} {lv fv vv : Value} {gw : Int} {gt : ByteArray} (hBc : Blk w b 144 #[.int .i64 c.cap, .int .i64 c.pins, .int .i64 c.shelves, .int .i64 c.queue, .int .i64 c.watchers, .int .u64 c.seed, .int .u64 ep, lv, .int .i64 4, fv, .int .i64 fk, .int .i64 fs, vv, .int .u64 blk, .int .i64 laid]) (hfk : fk ≠ 1) (hla : 0 ≤ laid ∧ laid ≤ 1000000) :
    Calls Tryz.prog 169 #[.pointer (some ⟨b, 0, none⟩), .agg #[.int .u64 gw, .string gt]] w fun e w' => e = .returned (.tuple #[]) ∧ Blk w' b 144 #[.int .i64 c.cap, .int .i64 c.pins, .int .i64 c.shelves, .int .i64 c.queue, .int .i64 c.watchers, .int .u64 c.seed, .int .u64 ep, lv, .int .i64 5, fv, .int .i64 fk, .int .i64 fs, vv, .int .u64 blk, .int .i64 (laid + 1)] ∧ Chg (fun k => k = b) w w' := by
  have hlt := hBc.lt
  have c8 := hBc.cell 8
  have c10 := hBc.cell 10
  have c14 := hBc.cell 14
  have f8 := hBc.frozen 8
  have f14 := hBc.frozen 14
  have d1 : (fk == 1) = false := by simp [hfk]
  have hw : wrap64 (laid + 1) = laid + 1 := by unfold wrap64; omega
  replace hBc := Lib.hid hBc
  replace hfk := Lib.hid hfk
  replace hw := Lib.hid hw
  go_enter Tryz.func169, Tryz.ntmps169
  go_wp2_with fail
  refine gen_world (α := fun W' => bodyPost _ _ _ _ _ W') (fun W' => Blk W' b 144 #[.int .i64 c.cap, .int .i64 c.pins, .int .i64 c.shelves, .int .i64 c.queue, .int .i64 c.watchers, .int .u64 c.seed, .int .u64 ep, lv, .int .i64 5, fv, .int .i64 fk, .int .i64 fs, vv, .int .u64 blk, .int .i64 (laid + 1)] ∧ Chg (fun k => k = b) w W') ⟨?_, ?_⟩ ?_
  · refine Blk.eq_cs (cs := (((#[.int .i64 c.cap, .int .i64 c.pins, .int .i64 c.shelves, .int .i64 c.queue, .int .i64 c.watchers, .int .u64 c.seed, .int .u64 ep, lv, .int .i64 4, fv, .int .i64 fk, .int .i64 fs, vv, .int .u64 blk, .int .i64 laid] : Array Value).setIfInBounds 14 (.int .i64 (laid + 1))).setIfInBounds 8 (.int .i64 5))) ?_ (by kernel_rfl)
    have hB := hBc.out
    (repeat first | with_reducible exact hB | with_reducible refine Blk.drewN ?_ _ | with_reducible refine Blk.drew ?_ | with_reducible refine Blk.alloc ?_ _ | with_reducible refine Blk.set_ ?_ _ _ | refine Blk.far ?_ (by simp; omega) _)
  · have hC := Chg.refl (fun k => k = b) w
    repeat first | with_reducible exact hC | with_reducible refine Chg.drew ?_ | with_reducible refine Chg.drewN ?_ _ | with_reducible refine Chg.alloc ?_ _ | refine Chg.setCell ?_ (by left; rfl) _
  rintro W' ⟨g1, g2⟩
  first | exact bodyPost_end (v := .tuple #[]) (results_none (by kernel_rfl) _ _ _) rfl ⟨rfl, g1, g2⟩ | exact bodyPost_ret (v := .tuple #[]) (results_none (by kernel_rfl) _ _ _) rfl ⟨rfl, g1, g2⟩
set_option maxRecDepth 100000 in
set_option maxHeartbeats 4000000 in
theorem lnTake1_any {w : World} {b : Nat} {c : PCfg} {ep fk fs blk laid : Int} {lv vv : Value} {gw : Int} {gt : ByteArray} {rb : Nat} (hBc : Blk w b 144 #[.int .i64 c.cap, .int .i64 c.pins, .int .i64 c.shelves, .int .i64 c.queue, .int .i64 c.watchers, .int .u64 c.seed, .int .u64 ep, lv, .int .i64 1, .pointer (some ⟨rb, 0, none⟩), .int .i64 fk, .int .i64 fs, vv, .int .u64 blk, .int .i64 laid]) (hne : rb ≠ b) (hrb : rb < w.heap.size) {P : World → Prop} {Post : World → World → Prop}
    (hT : ∀ W : World, W.heap[rb]? = w.heap[rb]? → Calls Tryz.prog 162 #[.pointer (some ⟨rb, 0, none⟩), .agg #[.int .u64 gw, .string gt]] W fun e w' => e = .returned (.tuple #[]) ∧ P w' ∧ Chg (fun k => k = rb) W w')
    (hS : ∀ W : World, P W → Blk W b 144 #[.int .i64 c.cap, .int .i64 c.pins, .int .i64 c.shelves, .int .i64 c.queue, .int .i64 c.watchers, .int .u64 c.seed, .int .u64 ep, lv, .int .i64 1, .pointer (some ⟨rb, 0, none⟩), .int .i64 fk, .int .i64 fs, vv, .int .u64 blk, .int .i64 laid] → Chg (fun k => k = rb) w W → Calls Tryz.prog 171 #[.pointer (some ⟨b, 0, none⟩)] W fun e w' => e = .returned (.tuple #[]) ∧ Post W w') :
    Calls Tryz.prog 169 #[.pointer (some ⟨b, 0, none⟩), .agg #[.int .u64 gw, .string gt]] w fun e w' => e = .returned (.tuple #[]) ∧ ∃ W, P W ∧ Blk W b 144 #[.int .i64 c.cap, .int .i64 c.pins, .int .i64 c.shelves, .int .i64 c.queue, .int .i64 c.watchers, .int .u64 c.seed, .int .u64 ep, lv, .int .i64 1, .pointer (some ⟨rb, 0, none⟩), .int .i64 fk, .int .i64 fs, vv, .int .u64 blk, .int .i64 laid] ∧ Chg (fun k => k = rb) w W ∧ Post W w' := by
  have hne1 : ¬ rb = b := hne
  have hne2 : ¬ b = rb := fun e => hne e.symm
  have hlt := hBc.lt
  obtain ⟨W', hW⟩ : ∃ W, W = w.alloc (.cells #[.int .u64 gw, .string gt] 52) := ⟨_, rfl⟩
  have g1 := hBc.alloc (.cells #[.int .u64 gw, .string gt] 52)
  have g0 := Blk.new w 52 #[.int .u64 gw, .string gt]
  have g2 : Below w.heap.size w (w.alloc (.cells #[.int .u64 gw, .string gt] 52)) := (Below.refl _ _).alloc (Nat.le_refl _) _
  rw [← hW] at g1 g0 g2
  have hltw := g1.lt
  have u0 := g0.cell 0
  have u1 := g0.cell 1
  have hltk := g0.lt
  have v8 := g1.cell 8
  have v9 := g1.cell 9
  have hTw := hT W'.drew (g2.block rb hrb)
  have hC0 := Chg.of_below g2 (fun k => k = rb)
  replace hBc := Lib.hid hBc
  replace hT := Lib.hid hT
  replace hS := Lib.hid hS
  replace hne := Lib.hid hne
  replace g0 := Lib.hid g0
  replace g1 := Lib.hid g1
  replace g2 := Lib.hid g2
  replace hTw := Lib.hid hTw
  replace hC0 := Lib.hid hC0
  go_enter Tryz.func169, Tryz.ntmps169
  go_upto_region 1 with fail
  rw [← hW]
  replace hW := Lib.hid hW
  go_wp2_with fail
  go_region_with (go_at_call 162; refine (hTw.out).mono ?_; rintro x w2 ⟨rfl, hp, hC2⟩; have hBw := Blk.keep (w := W') (w' := w2) g1.out (hC2.block b hltw hne2); have hC3 : Chg (fun k => k = rb) w w2 := hC0.out.drew.trans hC2 (fun i hi => Or.inl hi); have hSw := hS.out w2 hp hBw hC3; clear hC2; replace hBw := Lib.hid hBw; replace hC3 := Lib.hid hC3; replace hSw := Lib.hid hSw; replace hp := Lib.hid hp)
  all_goals
    go_wp2_with fail
    refine (hSw.out).mono ?_; rintro x w3 ⟨rfl, hq⟩
    replace hq := Lib.hid hq
    go_wp2_with fail
    first | exact bodyPost_end (v := .tuple #[]) (results_none (by kernel_rfl) _ _ _) rfl ⟨rfl, w2, hp.out, hBw.out, hC3.out, hq.out⟩ | exact bodyPost_ret (v := .tuple #[]) (results_none (by kernel_rfl) _ _ _) rfl ⟨rfl, w2, hp.out, hBw.out, hC3.out, hq.out⟩
set_option maxRecDepth 100000 in
set_option maxHeartbeats 4000000 in
theorem lnTake3Y_any {w : World} {b : Nat} {c : PCfg} {ep fk fs blk laid : Int} {lv fv : Value} {gw : Int} {gt : ByteArray} {rb : Nat} {r1 : Int} (hBc : Blk w b 144 #[.int .i64 c.cap, .int .i64 c.pins, .int .i64 c.shelves, .int .i64 c.queue, .int .i64 c.watchers, .int .u64 c.seed, .int .u64 ep, lv, .int .i64 3, fv, .int .i64 fk, .int .i64 fs, .pointer (some ⟨rb, 0, none⟩), .int .u64 blk, .int .i64 laid]) (hne : rb ≠ b) (hrb : rb < w.heap.size) {P : World → Prop}
    (hT : Calls Tryz.prog 172 #[.pointer (some ⟨rb, 0, none⟩), .agg #[.int .u64 gw, .string gt]] (w.alloc (.cells #[.int .u64 gw, .string gt] 52)).drew fun e w' => e = .returned (.tuple #[]) ∧ P w' ∧ Chg (fun k => k = rb) (w.alloc (.cells #[.int .u64 gw, .string gt] 52)).drew w')
    (hRs : ∀ W : World, P W → Calls Tryz.prog 90 #[.pointer (some ⟨rb, 0, none⟩)] W fun e w' => e = .returned (.tuple #[.int .u64 r1, .bool true]) ∧ Below W.heap.size W w') :
    Calls Tryz.prog 169 #[.pointer (some ⟨b, 0, none⟩), .agg #[.int .u64 gw, .string gt]] w fun e w' => e = .returned (.tuple #[]) ∧ ∃ W, P W ∧ Chg (fun k => k = rb) w W ∧ Blk w' b 144 #[.int .i64 c.cap, .int .i64 c.pins, .int .i64 c.shelves, .int .i64 c.queue, .int .i64 c.watchers, .int .u64 c.seed, .int .u64 ep, lv, .int .i64 4, fv, .int .i64 fk, .int .i64 fs, .pointer (some ⟨rb, 0, none⟩), .int .u64 r1, .int .i64 laid] ∧ Chg (fun k => k = b) W w' := by
  have hne1 : ¬ rb = b := hne
  have hne2 : ¬ b = rb := fun e => hne e.symm
  have hlt := hBc.lt
  obtain ⟨W', hW⟩ : ∃ W, W = w.alloc (.cells #[.int .u64 gw, .string gt] 52) := ⟨_, rfl⟩
  have g1 := hBc.alloc (.cells #[.int .u64 gw, .string gt] 52)
  have g0 := Blk.new w 52 #[.int .u64 gw, .string gt]
  have g2 : Below w.heap.size w (w.alloc (.cells #[.int .u64 gw, .string gt] 52)) := (Below.refl _ _).alloc (Nat.le_refl _) _
  rw [← hW] at g1 g0 g2 hT
  have hltw := g1.lt
  have u0 := g0.cell 0
  have u1 := g0.cell 1
  have hltk := g0.lt
  have v8 := g1.cell 8
  have v12 := g1.cell 12
  have hC0 := Chg.of_below g2 (fun k => k = rb)
  replace hBc := Lib.hid hBc
  replace hT := Lib.hid hT
  replace hRs := Lib.hid hRs
  replace hne := Lib.hid hne
  replace g0 := Lib.hid g0
  replace g1 := Lib.hid g1
  replace g2 := Lib.hid g2
  replace hC0 := Lib.hid hC0
  go_enter Tryz.func169, Tryz.ntmps169
  go_upto_region 1 with fail
  rw [← hW]
  replace hW := Lib.hid hW
  go_wp2_with fail
  go_region_with (go_at_call 172; refine (hT.out).mono ?_; rintro x w2 ⟨rfl, hp, hC2⟩; have hBw := Blk.keep (w := W') (w' := w2) g1.out (hC2.block b hltw hne2); have hC3 : Chg (fun k => k = rb) w w2 := hC0.out.drew.trans hC2 (fun i hi => Or.inl hi); have hRw := hRs.out w2 hp; have z12 := hBw.cell 12; have hlz := hBw.lt; clear hC2; replace hBw := Lib.hid hBw; replace hC3 := Lib.hid hC3; replace hRw := Lib.hid hRw; replace hp := Lib.hid hp)
  all_goals
    clear v8 v12
    go_wp2_with fail
    refine (hRw.out).mono ?_; rintro x w3 ⟨rfl, hb3⟩
    have L4 := hBw.out.below hb3 hBw.out.lt
    have hC4 := Chg.of_below hb3 (fun k => k = b)
    have y8 := L4.cell 8
    have y13 := L4.cell 13
    have yf8 := L4.frozen 8
    have yf13 := L4.frozen 13
    have hl4 := L4.lt
    replace L4 := Lib.hid L4
    replace hC4 := Lib.hid hC4
    go_wp2_with fail
    refine gen_world (α := fun W' => bodyPost _ _ _ _ _ W') (fun W' => Blk W' b 144 #[.int .i64 c.cap, .int .i64 c.pins, .int .i64 c.shelves, .int .i64 c.queue, .int .i64 c.watchers, .int .u64 c.seed, .int .u64 ep, lv, .int .i64 4, fv, .int .i64 fk, .int .i64 fs, .pointer (some ⟨rb, 0, none⟩), .int .u64 r1, .int .i64 laid] ∧ Chg (fun k => k = b) w2 W') ⟨?_, ?_⟩ ?_
    · refine Blk.eq_cs (cs := (((#[.int .i64 c.cap, .int .i64 c.pins, .int .i64 c.shelves, .int .i64 c.queue, .int .i64 c.watchers, .int .u64 c.seed, .int .u64 ep, lv, .int .i64 3, fv, .int .i64 fk, .int .i64 fs, .pointer (some ⟨rb, 0, none⟩), .int .u64 blk, .int .i64 laid] : Array Value).setIfInBounds 13 (.int .u64 r1)).setIfInBounds 8 (.int .i64 4))) ?_ (by kernel_rfl)
      have hB := L4.out
      (repeat first | with_reducible exact hB | with_reducible refine Blk.drewN ?_ _ | with_reducible refine Blk.drew ?_ | with_reducible refine Blk.alloc ?_ _ | with_reducible refine Blk.set_ ?_ _ _ | refine Blk.far ?_ (by simp; omega) _)
    · have hC := hC4.out
      repeat first | with_reducible exact hC | with_reducible refine Chg.drew ?_ | with_reducible refine Chg.drewN ?_ _ | with_reducible refine Chg.alloc ?_ _ | refine Chg.setCell ?_ (by left; rfl) _
    rintro W5 ⟨k1, k2⟩
    first | exact bodyPost_end (v := .tuple #[]) (results_none (by kernel_rfl) _ _ _) rfl ⟨rfl, w2, hp.out, hC3.out, k1, k2⟩ | exact bodyPost_ret (v := .tuple #[]) (results_none (by kernel_rfl) _ _ _) rfl ⟨rfl, w2, hp.out, hC3.out, k1, k2⟩
set_option maxRecDepth 100000 in
set_option maxHeartbeats 4000000 in
theorem lnTake3N_any {w : World} {b : Nat} {c : PCfg} {ep fk fs blk laid : Int} {lv fv : Value} {gw : Int} {gt : ByteArray} {rb : Nat} {r1 : Int} (hBc : Blk w b 144 #[.int .i64 c.cap, .int .i64 c.pins, .int .i64 c.shelves, .int .i64 c.queue, .int .i64 c.watchers, .int .u64 c.seed, .int .u64 ep, lv, .int .i64 3, fv, .int .i64 fk, .int .i64 fs, .pointer (some ⟨rb, 0, none⟩), .int .u64 blk, .int .i64 laid]) (hne : rb ≠ b) (hrb : rb < w.heap.size) {P : World → Prop}
    (hT : Calls Tryz.prog 172 #[.pointer (some ⟨rb, 0, none⟩), .agg #[.int .u64 gw, .string gt]] (w.alloc (.cells #[.int .u64 gw, .string gt] 52)).drew fun e w' => e = .returned (.tuple #[]) ∧ P w' ∧ Chg (fun k => k = rb) (w.alloc (.cells #[.int .u64 gw, .string gt] 52)).drew w')
    (hRs : ∀ W : World, P W → Calls Tryz.prog 90 #[.pointer (some ⟨rb, 0, none⟩)] W fun e w' => e = .returned (.tuple #[.int .u64 r1, .bool false]) ∧ Below W.heap.size W w') :
    Calls Tryz.prog 169 #[.pointer (some ⟨b, 0, none⟩), .agg #[.int .u64 gw, .string gt]] w fun e w' => e = .returned (.tuple #[]) ∧ ∃ W, P W ∧ Blk W b 144 #[.int .i64 c.cap, .int .i64 c.pins, .int .i64 c.shelves, .int .i64 c.queue, .int .i64 c.watchers, .int .u64 c.seed, .int .u64 ep, lv, .int .i64 3, fv, .int .i64 fk, .int .i64 fs, .pointer (some ⟨rb, 0, none⟩), .int .u64 blk, .int .i64 laid] ∧ Chg (fun k => k = rb) w W ∧ Below W.heap.size W w' := by
  have hne1 : ¬ rb = b := hne
  have hne2 : ¬ b = rb := fun e => hne e.symm
  have hlt := hBc.lt
  obtain ⟨W', hW⟩ : ∃ W, W = w.alloc (.cells #[.int .u64 gw, .string gt] 52) := ⟨_, rfl⟩
  have g1 := hBc.alloc (.cells #[.int .u64 gw, .string gt] 52)
  have g0 := Blk.new w 52 #[.int .u64 gw, .string gt]
  have g2 : Below w.heap.size w (w.alloc (.cells #[.int .u64 gw, .string gt] 52)) := (Below.refl _ _).alloc (Nat.le_refl _) _
  rw [← hW] at g1 g0 g2 hT
  have hltw := g1.lt
  have u0 := g0.cell 0
  have u1 := g0.cell 1
  have hltk := g0.lt
  have v8 := g1.cell 8
  have v12 := g1.cell 12
  have hC0 := Chg.of_below g2 (fun k => k = rb)
  replace hBc := Lib.hid hBc
  replace hT := Lib.hid hT
  replace hRs := Lib.hid hRs
  replace hne := Lib.hid hne
  replace g0 := Lib.hid g0
  replace g1 := Lib.hid g1
  replace g2 := Lib.hid g2
  replace hC0 := Lib.hid hC0
  go_enter Tryz.func169, Tryz.ntmps169
  go_upto_region 1 with fail
  rw [← hW]
  replace hW := Lib.hid hW
  go_wp2_with fail
  go_region_with (go_at_call 172; refine (hT.out).mono ?_; rintro x w2 ⟨rfl, hp, hC2⟩; have hBw := Blk.keep (w := W') (w' := w2) g1.out (hC2.block b hltw hne2); have hC3 : Chg (fun k => k = rb) w w2 := hC0.out.drew.trans hC2 (fun i hi => Or.inl hi); have hRw := hRs.out w2 hp; have z12 := hBw.cell 12; have hlz := hBw.lt; clear hC2; replace hBw := Lib.hid hBw; replace hC3 := Lib.hid hC3; replace hRw := Lib.hid hRw; replace hp := Lib.hid hp)
  all_goals
    clear v8 v12
    go_wp2_with fail
    refine (hRw.out).mono ?_; rintro x w3 ⟨rfl, hb3⟩
    replace hb3 := Lib.hid hb3
    go_wp2_with fail
    first | exact bodyPost_end (v := .tuple #[]) (results_none (by kernel_rfl) _ _ _) rfl ⟨rfl, w2, hp.out, hBw.out, hC3.out, hb3.out⟩ | exact bodyPost_ret (v := .tuple #[]) (results_none (by kernel_rfl) _ _ _) rfl ⟨rfl, w2, hp.out, hBw.out, hC3.out, hb3.out⟩
set_option maxRecDepth 100000 in
set_option maxHeartbeats 4000000 in
theorem lnTake2_any {w : World} {b : Nat} {c : PCfg} {ep fk fs blk laid : Int} {fv vv : Value} {gw : Int} {gt : ByteArray} {ad : Addr} {n cap : Nat} {ky vl : ByteArray} {hs : Bool} (hBc : Blk w b 144 #[.int .i64 c.cap, .int .i64 c.pins, .int .i64 c.shelves, .int .i64 c.queue, .int .i64 c.watchers, .int .u64 c.seed, .int .u64 ep, .slice (some ad) n cap, .int .i64 2, fv, .int .i64 fk, .int .i64 fs, vv, .int .u64 blk, .int .i64 laid]) (hn : 0 < n) (had : ad.block < w.heap.size) (hadb : ad.block ≠ b) (hc0 : w.cell? ad = some (.string ky)) (hc1 : w.cell? ⟨ad.block, ad.off + 1, none⟩ = some (.bool hs)) (hc2 : w.cell? ⟨ad.block, ad.off + 2, none⟩ = some (.string vl)) :
    Calls Tryz.prog 169 #[.pointer (some ⟨b, 0, none⟩), .agg #[.int .u64 gw, .string gt]] w fun e w' => e = .returned (.tuple #[]) ∧ ∃ vb ar cc, Blk w' b 144 #[.int .i64 c.cap, .int .i64 c.pins, .int .i64 c.shelves, .int .i64 c.queue, .int .i64 c.watchers, .int .u64 c.seed, .int .u64 ep, .slice (some ad) n cap, .int .i64 3, fv, .int .i64 fk, .int .i64 fs, .pointer (some ⟨vb, 0, none⟩), .int .u64 blk, .int .i64 laid] ∧ VerIn w' vb ar cc (newVer ep gw ⟨ky, hs, vl⟩) ∧ w.heap.size ≤ vb ∧ w.heap.size ≤ ar ∧ Chg (fun k => k = b) w w' := by
  have hN := fun W => verNew_any W ep gw ⟨ky, hs, vl⟩
  rw [show PChange.val ⟨ky, hs, vl⟩ = .agg #[.string ky, .bool hs, .string vl] from rfl] at hN
  have hlt := hBc.lt
  have i0 : (0 : Int) ≤ 0 := by omega
  have i1 : (0 : Int) < (n : Int) := by omega
  obtain ⟨W', hW⟩ : ∃ W, W = w.alloc (.cells #[.int .u64 gw, .string gt] 52) := ⟨_, rfl⟩
  have g1 := hBc.alloc (.cells #[.int .u64 gw, .string gt] 52)
  have g0 := Blk.new w 52 #[.int .u64 gw, .string gt]
  have g2 : Below w.heap.size w (w.alloc (.cells #[.int .u64 gw, .string gt] 52)) := (Below.refl _ _).alloc (Nat.le_refl _) _
  rw [← hW] at g1 g0 g2
  have a0 := (g2.cell had).trans hc0
  have a1 := (g2.cell (p := ⟨ad.block, ad.off + 1, none⟩) had).trans hc1
  have a2 := (g2.cell (p := ⟨ad.block, ad.off + 2, none⟩) had).trans hc2
  have a3 := g0.cell 0
  have hltw := g1.lt
  have hltk := g0.lt
  have hadw : ad.block < W'.heap.size := Nat.lt_of_lt_of_le had g2.size
  have v8 := g1.cell 8
  have hHeld0 : (fun W : World => W.cell? ⟨b, 6, none⟩ = some (.int .u64 ep) ∧ W.cell? ⟨b, 7, none⟩ = some (.slice (some ad) n cap) ∧ W.cell? ad = some (.string ky) ∧ W.cell? ⟨ad.block, ad.off + 1, none⟩ = some (.bool hs) ∧ W.cell? ⟨ad.block, ad.off + 2, none⟩ = some (.string vl) ∧ W.cell? ⟨w.heap.size, 0, none⟩ = some (.int .u64 gw)) W'.drew := ⟨g1.cell 6, g1.cell 7, a0, a1, a2, a3⟩
  have hC0 := Chg.of_below g2 (fun k => k = b)
  clear hc0 hc1 hc2
  replace hBc := Lib.hid hBc
  replace hN := Lib.hid hN
  replace hadb := Lib.hid hadb
  replace g0 := Lib.hid g0
  replace g1 := Lib.hid g1
  replace hC0 := Lib.hid hC0
  replace hHeld0 := Lib.hid hHeld0
  replace a0 := Lib.hid a0
  replace a1 := Lib.hid a1
  replace a2 := Lib.hid a2
  replace a3 := Lib.hid a3
  go_enter Tryz.func169, Tryz.ntmps169
  go_upto_region 1 with fail
  rw [← hW]
  replace hW := Lib.hid hW
  go_upto_region 7 with fail
  refine wp_region_lex [(true, 0), (true, 1), (true, 2), (true, 3), (true, 4), (true, 5), (true, 6), (true, 7), (true, 8), (true, 9), (true, 10), (true, 11), (true, 12), (true, 13), (false, 14), (true, 15), (true, 16), (false, 17), (true, 18), (true, 19), (false, 20)] (fun W : World => W.cell? ⟨b, 6, none⟩ = some (.int .u64 ep) ∧ W.cell? ⟨b, 7, none⟩ = some (.slice (some ad) n cap) ∧ W.cell? ad = some (.string ky) ∧ W.cell? ⟨ad.block, ad.off + 1, none⟩ = some (.bool hs) ∧ W.cell? ⟨ad.block, ad.off + 2, none⟩ = some (.string vl) ∧ W.cell? ⟨w.heap.size, 0, none⟩ = some (.int .u64 gw)) (by kernel_rfl) (by kernel_rfl) (fun R hR => ?_)
  have hHeld := hHeld0.out
  repeat (refine lex_take (v := ?_) rfl (by rfl) (by assumption) ?_ ?_; rotate_left 1; (focus (intro w hSw; (try dsimp only at hSw); go_simp; (try with_reducible rfl))); (try simp only [Act.put, List.setIfInBounds_toArray, List.set_cons_zero, List.set_cons_succ]))
  (refine lex_call rfl (by rfl) (fun K hq => ?_); go_simp)
  go_at_call 89; refine (hN.out _).mono ?_; rintro x w2 ⟨vb, ar, cc, rfl, hV, hvb, har, hb2⟩
  have hBw := Blk.below (w := W'.drew) g1.out hb2 hltw
  have hC2 : Chg (fun k => k = b) w w2 := hC0.out.drew.next_ hb2
  have hvb' : W'.heap.size ≤ vb := hvb
  have har' : W'.heap.size ≤ ar := har
  have z0 := (Below.cell (w := W'.drew) hb2 hadw).trans a0.out
  have z1 := (Below.cell (w := W'.drew) (p := ⟨ad.block, ad.off + 1, none⟩) hb2 hadw).trans a1.out
  have z2 := (Below.cell (w := W'.drew) (p := ⟨ad.block, ad.off + 2, none⟩) hb2 hadw).trans a2.out
  have z3 := (Below.cell (w := W'.drew) (p := ⟨w.heap.size, 0, none⟩) hb2 hltk).trans a3.out
  have hwb : w.heap.size ≠ b := by omega
  have far5 : ∀ (q : Addr) v, q.block ≠ b → w2.cell? q = some v → (w2.setCell ⟨b, 12, none⟩ (.pointer (some ⟨vb, 0, none⟩))).cell? q = some v := fun q v hq h => (World.cell?_of_block (Below.heap_setCell _ _ _ q.block hq)).trans h
  have far6 : ∀ (q : Addr) v, q.block ≠ b → w2.cell? q = some v → ((w2.setCell ⟨b, 12, none⟩ (.pointer (some ⟨vb, 0, none⟩))).setCell ⟨b, 8, none⟩ (.int .i64 3)).cell? q = some v := fun q v hq h => (World.cell?_of_block (Below.heap_setCell _ _ _ q.block hq)).trans (far5 q v hq h)
  have p0 := far5 ad _ hadb.out z0
  have p1 := far5 ⟨ad.block, ad.off + 1, none⟩ _ hadb.out z1
  have p2 := far5 ⟨ad.block, ad.off + 2, none⟩ _ hadb.out z2
  have p3 := far5 ⟨w.heap.size, 0, none⟩ _ hwb z3
  have r0 := far6 ad _ hadb.out z0
  have r1 := far6 ⟨ad.block, ad.off + 1, none⟩ _ hadb.out z1
  have r2 := far6 ⟨ad.block, ad.off + 2, none⟩ _ hadb.out z2
  have r3 := far6 ⟨w.heap.size, 0, none⟩ _ hwb z3
  have y12 := hBw.cell 12
  have yf12 := hBw.frozen 12
  have hltw2 := hBw.lt
  clear hHeld
  have hHeld : (fun W : World => W.cell? ⟨b, 6, none⟩ = some (.int .u64 ep) ∧ W.cell? ⟨b, 7, none⟩ = some (.slice (some ad) n cap) ∧ W.cell? ad = some (.string ky) ∧ W.cell? ⟨ad.block, ad.off + 1, none⟩ = some (.bool hs) ∧ W.cell? ⟨ad.block, ad.off + 2, none⟩ = some (.string vl) ∧ W.cell? ⟨w.heap.size, 0, none⟩ = some (.int .u64 gw)) w2 := ⟨hBw.cell 6, hBw.cell 7, z0, z1, z2, z3⟩
  clear hb2 z0 z1 z2 z3 far5 far6
  replace hBw := Lib.hid hBw
  replace hC2 := Lib.hid hC2
  replace hV := Lib.hid hV
  replace p0 := Lib.hid p0
  replace p1 := Lib.hid p1
  replace p2 := Lib.hid p2
  replace p3 := Lib.hid p3
  replace r0 := Lib.hid r0
  replace r1 := Lib.hid r1
  replace r2 := Lib.hid r2
  replace r3 := Lib.hid r3
  (refine hq.out _ _ _ (fun _ h => h) hHeld ?_; clear hq K; (try simp only [Act.put, List.setIfInBounds_toArray, List.set_cons_zero, List.set_cons_succ]))
  repeat (refine lex_take (v := ?_) rfl (by rfl) (by assumption) ?_ ?_; rotate_left 1; (focus (intro w hSw; (try dsimp only at hSw); go_simp; (try with_reducible rfl))); (try simp only [Act.put, List.setIfInBounds_toArray, List.set_cons_zero, List.set_cons_succ]))
  (refine lex_call rfl (by rfl) (fun K hq => ?_); go_simp)
  have hB5 : Blk (w2.setCell ⟨b, 12, none⟩ (.pointer (some ⟨vb, 0, none⟩))) b 144 #[.int .i64 c.cap, .int .i64 c.pins, .int .i64 c.shelves, .int .i64 c.queue, .int .i64 c.watchers, .int .u64 c.seed, .int .u64 ep, .slice (some ad) n cap, .int .i64 2, fv, .int .i64 fk, .int .i64 fs, .pointer (some ⟨vb, 0, none⟩), .int .u64 blk, .int .i64 laid] := Blk.eq_cs (hBw.out.set_ 12 _) (by kernel_rfl)
  have y8 := hB5.cell 8
  have yf8 := hB5.frozen 8
  clear hHeld
  have hHeld : (fun W : World => W.cell? ⟨b, 6, none⟩ = some (.int .u64 ep) ∧ W.cell? ⟨b, 7, none⟩ = some (.slice (some ad) n cap) ∧ W.cell? ad = some (.string ky) ∧ W.cell? ⟨ad.block, ad.off + 1, none⟩ = some (.bool hs) ∧ W.cell? ⟨ad.block, ad.off + 2, none⟩ = some (.string vl) ∧ W.cell? ⟨w.heap.size, 0, none⟩ = some (.int .u64 gw)) (w2.setCell ⟨b, 12, none⟩ (.pointer (some ⟨vb, 0, none⟩))) := ⟨hB5.cell 6, hB5.cell 7, p0.out, p1.out, p2.out, p3.out⟩
  (refine hq.out _ _ _ (fun _ h => h) hHeld ?_; clear hq K; (try simp only [Act.put, List.setIfInBounds_toArray, List.set_cons_zero, List.set_cons_succ]))
  repeat (refine lex_take (v := ?_) rfl (by rfl) (by assumption) ?_ ?_; rotate_left 1; (focus (intro w hSw; (try dsimp only at hSw); go_simp; (try with_reducible rfl))); (try simp only [Act.put, List.setIfInBounds_toArray, List.set_cons_zero, List.set_cons_succ]))
  (refine lex_call rfl (by rfl) (fun K hq => ?_); go_simp)
  have hB6 : Blk ((w2.setCell ⟨b, 12, none⟩ (.pointer (some ⟨vb, 0, none⟩))).setCell ⟨b, 8, none⟩ (.int .i64 3)) b 144 #[.int .i64 c.cap, .int .i64 c.pins, .int .i64 c.shelves, .int .i64 c.queue, .int .i64 c.watchers, .int .u64 c.seed, .int .u64 ep, .slice (some ad) n cap, .int .i64 3, fv, .int .i64 fk, .int .i64 fs, .pointer (some ⟨vb, 0, none⟩), .int .u64 blk, .int .i64 laid] := Blk.eq_cs (hB5.set_ 8 _) (by kernel_rfl)
  clear hHeld
  have hHeld : (fun W : World => W.cell? ⟨b, 6, none⟩ = some (.int .u64 ep) ∧ W.cell? ⟨b, 7, none⟩ = some (.slice (some ad) n cap) ∧ W.cell? ad = some (.string ky) ∧ W.cell? ⟨ad.block, ad.off + 1, none⟩ = some (.bool hs) ∧ W.cell? ⟨ad.block, ad.off + 2, none⟩ = some (.string vl) ∧ W.cell? ⟨w.heap.size, 0, none⟩ = some (.int .u64 gw)) ((w2.setCell ⟨b, 12, none⟩ (.pointer (some ⟨vb, 0, none⟩))).setCell ⟨b, 8, none⟩ (.int .i64 3)) := ⟨hB6.cell 6, hB6.cell 7, r0.out, r1.out, r2.out, r3.out⟩
  (refine hq.out _ _ _ (fun _ h => h) hHeld ?_; clear hq K; (try simp only [Act.put, List.setIfInBounds_toArray, List.set_cons_zero, List.set_cons_succ]))
  refine lex_end (hR.out _ _ ?_)
  have hs2 : w.heap.size ≤ W'.heap.size := g2.size
  have hvne : vb ≠ b := by omega
  have harne : ar ≠ b := by omega
  have hV6 : VerIn ((w2.setCell ⟨b, 12, none⟩ (.pointer (some ⟨vb, 0, none⟩))).setCell ⟨b, 8, none⟩ (.int .i64 3)) vb ar cc (newVer ep gw ⟨ky, hs, vl⟩) := hV.out.keep (by rw [size_setCell, size_setCell]; exact Nat.le_refl _) ((Below.heap_setCell _ _ _ vb hvne).trans (Below.heap_setCell _ _ _ vb hvne)) ((Below.heap_setCell _ _ _ ar harne).trans (Below.heap_setCell _ _ _ ar harne))
  have hfin : Blk ((w2.setCell ⟨b, 12, none⟩ (.pointer (some ⟨vb, 0, none⟩))).setCell ⟨b, 8, none⟩ (.int .i64 3)) b 144 #[.int .i64 c.cap, .int .i64 c.pins, .int .i64 c.shelves, .int .i64 c.queue, .int .i64 c.watchers, .int .u64 c.seed, .int .u64 ep, .slice (some ad) n cap, .int .i64 3, fv, .int .i64 fk, .int .i64 fs, .pointer (some ⟨vb, 0, none⟩), .int .u64 blk, .int .i64 laid] ∧ VerIn ((w2.setCell ⟨b, 12, none⟩ (.pointer (some ⟨vb, 0, none⟩))).setCell ⟨b, 8, none⟩ (.int .i64 3)) vb ar cc (newVer ep gw ⟨ky, hs, vl⟩) ∧ w.heap.size ≤ vb ∧ w.heap.size ≤ ar ∧ Chg (fun k => k = b) w ((w2.setCell ⟨b, 12, none⟩ (.pointer (some ⟨vb, 0, none⟩))).setCell ⟨b, 8, none⟩ (.int .i64 3)) :=
    ⟨hB6, hV6, by omega, by omega, Chg.setCell (p := ⟨b, 8, none⟩) (Chg.setCell (p := ⟨b, 12, none⟩) hC2.out (.inl rfl) _) (.inl rfl) _⟩
  clear hR R hHeld hV6
  replace hfin := Lib.hid hfin
  replace hB5 := Lib.hid hB5
  replace hB6 := Lib.hid hB6
  go_wp2_with fail
  first | exact bodyPost_end (v := .tuple #[]) (results_none (by kernel_rfl) _ _ _) rfl ⟨rfl, vb, hfin.out.1, ar, ⟨cc, hfin.out.2.1⟩, hfin.out.2.2.1, hfin.out.2.2.2.1, hfin.out.2.2.2.2⟩ | exact bodyPost_ret (v := .tuple #[]) (results_none (by kernel_rfl) _ _ _) rfl ⟨rfl, vb, hfin.out.1, ar, ⟨cc, hfin.out.2.1⟩, hfin.out.2.2.1, hfin.out.2.2.2.1, hfin.out.2.2.2.2⟩
end Go.Proofs.YtmlnhjfdhjachaaGreat

/-
  A row of changes that a routine keeps; slices.Clone of it (layer 30). No condition. (Printed by tools/ln.py.)
-/
namespace Go.Proofs.YtmlnhjfdhjachaaGreat
set_option linter.unusedVariables false
open Go.ChangeShapes Go.WideShapes Go.ChangeAt Go.RowKit
open Go.ChangeMaps (setBlock)

/-- A row of changes in memory of one's own. -/
def ChRow (w : World) (Q : Nat → Prop) (b : Nat) (A : Option Addr) (n cap : Nat) (l : List PChange) : Prop :=
  l.length = n ∧ n ≤ cap ∧ (0 < n → ∃ ad, A = some ad ∧ Q ad.block ∧ ad.block ≠ b ∧ ∀ j u, (chL l)[j]? = some u → w.cell? (ad.add j) = some u)
theorem ChRow.keep {w w' : World} {Q : Nat → Prop} {b : Nat} {A : Option Addr} {n cap : Nat} {l : List PChange} (h : ChRow w Q b A n cap l) (hk : ∀ k, Q k → w'.heap[k]? = w.heap[k]?) : ChRow w' Q b A n cap l :=
  ⟨h.1, h.2.1, fun hn => by
    obtain ⟨ad, h1, h2, h3, h4⟩ := h.2.2 hn
    exact ⟨ad, h1, h2, h3, fun j u hu => (World.cell?_of_block (by rw [block_of_add]; exact hk _ h2)).trans (h4 j u hu)⟩⟩
theorem ChRow.far {w w' : World} {Q : Nat → Prop} {b : Nat} {A : Option Addr} {n cap : Nat} {l : List PChange} (h : ChRow w Q b A n cap l) (hQ : In Q w) (hk : Chg (fun k => k = b) w w') : ChRow w' Q b A n cap l :=
  ⟨h.1, h.2.1, fun hn => by
    obtain ⟨ad, h1, h2, h3, h4⟩ := h.2.2 hn
    exact ⟨ad, h1, h2, h3, fun j u hu => (World.cell?_of_block (by rw [block_of_add]; exact hk.block _ (hQ _ h2) h3)).trans (h4 j u hu)⟩⟩
theorem ChRow.wide {w : World} {Q Q' : Nat → Prop} {b : Nat} {A : Option Addr} {n cap : Nat} {l : List PChange} (h : ChRow w Q b A n cap l) (hk : ∀ k, Q k → Q' k) : ChRow w Q' b A n cap l :=
  ⟨h.1, h.2.1, fun hn => by
    obtain ⟨ad, h1, h2, h3⟩ := h.2.2 hn
    exact ⟨ad, h1, hk _ h2, h3⟩⟩
theorem ChRow.nil {w : World} {Q : Nat → Prop} {b : Nat} {A : Option Addr} {cap : Nat} : ChRow w Q b A 0 cap [] := ⟨rfl, Nat.zero_le _, fun h => absurd h (by omega)⟩
/-- Its first change. -/
theorem ChRow.first {w : World} {Q : Nat → Prop} {b : Nat} {A : Option Addr} {n cap : Nat} {ch : PChange} {l : List PChange} (h : ChRow w Q b A n cap (ch :: l)) :
    0 < n ∧ ∃ ad, A = some ad ∧ Q ad.block ∧ ad.block ≠ b ∧ w.cell? ad = some (.string ch.key) ∧ w.cell? ⟨ad.block, ad.off + 1, none⟩ = some (.bool ch.has) ∧ w.cell? ⟨ad.block, ad.off + 2, none⟩ = some (.string ch.value) := by
  have hn : 0 < n := by have := h.1; simp at this; omega
  obtain ⟨ad, h1, h2, h3, h4⟩ := h.2.2 hn
  refine ⟨hn, ad, h1, h2, h3, h4 0 _ rfl, h4 1 _ rfl, h4 2 _ rfl⟩
/-- The row without its first change. -/
theorem ChRow.tail {w : World} {Q : Nat → Prop} {b : Nat} {ad : Addr} {n cap : Nat} {ch : PChange} {l : List PChange} (h : ChRow w Q b (some ad) n cap (ch :: l)) {A2 : Option Addr} (hA : (if cap = 1 then some ad else some ⟨ad.block, ad.off + 3, none⟩ : Option Addr) = A2) : ChRow w Q b A2 (n - 1) (cap - 1) l := by
  have h1 := h.1
  have h2 := h.2.1
  simp only [List.length_cons] at h1
  refine ⟨by omega, by omega, fun hn => ?_⟩
  obtain ⟨ad', e, h3, h4, h5⟩ := h.2.2 (by omega)
  injection e with e
  subst e
  rw [if_neg (by omega)] at hA
  refine ⟨_, hA.symm, h3, h4, fun j u hu => ?_⟩
  have h6 := h5 (3 + j) u (by rw [← hu]; show (chL (ch :: l))[3 + j]? = _; rw [Nat.add_comm]; rfl)
  rw [← add_of_add] at h6
  exact h6
set_option maxRecDepth 100000 in
set_option maxHeartbeats 4000000 in
theorem cloneCh_any {w : World} (A : Option Addr) (n c : Nat) (l : List PChange) (hl : l.length = n) (hn : n ≤ 1000) (hr : Reads w w.heap.size 3 A n (chL l)) :
    Calls Tryz.prog 71 #[.slice A n c] w fun e w' => ∃ A' c', e = .returned (.slice A' n c') ∧ (∀ b, (w.heap.size ≤ b → w'.heap.size ≤ b) → ChRow w' (fun k => w.heap.size ≤ k ∧ k < w'.heap.size) b A' n c' l) ∧ Below w.heap.size w w' := by
  obtain ⟨i0, hi, hz0', hz1', hz2'⟩ : ∃ i, Tryz.prog.info? 57 = some i ∧ i.zero = some (.agg #[.string ⟨#[]⟩, .bool false, .string ⟨#[]⟩]) ∧ i.size = 3 ∧ i.bytes = 40 := ⟨_, rfl, rfl, rfl, rfl⟩
  have one : ∀ u ∈ chL l, u.oneCell' = true := fun u hu => by
    unfold chL at hu
    obtain ⟨x, _, hx⟩ := List.mem_flatMap.1 hu
    simp only [List.mem_cons, List.not_mem_nil, or_false] at hx
    rcases hx with rfl | rfl | rfl <;> rfl
  cases A with
  | none =>
    have h0 : n = 0 := by
      rcases Nat.eq_zero_or_pos n with h | h
      · exact h
      · obtain ⟨_, e, _⟩ := hr.2 h; cases e
    subst h0
    have hl0 : l = [] := List.eq_nil_of_length_eq_zero hl
    subst hl0
    have hnil : ∀ W, (binOp .eql 38 (.slice none 0 c) (.slice none 0 0)).run Tryz.prog W = .ok (.bool true) W := fun W => by have := Lib.run_eql_slice_nil (P := Tryz.prog) W _ _ none 0 c 0 0 Tryz.underlying38; exact this
    go_enter Tryz.func71, Tryz.ntmps71
    go_wp2_with fail
    go_ret
    exact ⟨none, 0, rfl, fun _ _ => ChRow.nil, Below.refl _ _⟩
  | some ad =>
    have hown : (w.alloc (.cells #[] 57)).ownsRow w.heap.size 57 3 (.slice (some ⟨w.heap.size, 0, none⟩) 0 0) 0 [] :=
      ⟨rfl, .inr ⟨w.heap.size, 0, #[], rfl, Nat.le_refl _, Blk.new w 57 #[], Nat.le_refl _, Nat.zero_le _, rfl, rfl⟩⟩
    have hb1 : Below w.heap.size w (w.alloc (.cells #[] 57)) := (Below.refl _ _).alloc (Nat.le_refl _) _
    have hr1 := hr.below hb1
    clear hr
    replace hr1 := Lib.hid hr1
    replace hown := Lib.hid hown
    replace hb1 := Lib.hid hb1
    replace hl := Lib.hid hl
    have hnil : ∀ W, (binOp .eql 38 (.slice (some ad) n c) (.slice none 0 0)).run Tryz.prog W = .ok (.bool false) W := fun W => by have := Lib.run_eql_slice_nil (P := Tryz.prog) W _ _ (some ad) n c 0 0 Tryz.underlying38; exact this
    go_enter Tryz.func71, Tryz.ntmps71
    go_wp2_with (at_builtin; go_loud (refine wpList_append_any _ rfl _ _ 38 rfl w.heap.size 57 i0 (.agg #[.string ⟨#[]⟩, .bool false, .string ⟨#[]⟩]) 3 40 Tryz.underlying38 hi hz0' hz1' hz2' rfl (by decide) (.slice (some ⟨w.heap.size, 0, none⟩) 0 0) 0 [] rfl hown.out w.heap.size (some ad) n c (chL l) rfl hr1.out one (by unfold maxLen; omega) (by omega) (by simp) ?_; intro v' w6 hown6 hgrow hloc; have hb6 := own_below_ (Nat.le_refl _) hb1.out hown.out hgrow; replace hown6 := Lib.hid hown6; clear hgrow hloc; replace hb6 := Lib.hid hb6))
    go_wp2_with fail
    go_ret
    have h6 := hown6.out
    rw [Nat.zero_add, List.nil_append] at h6
    obtain ⟨A', c', rfl, hcap⟩ : ∃ A' c', v' = .slice A' n c' ∧ n ≤ c' := by
      rcases h6.2 with ⟨rfl, rfl⟩ | ⟨g, cap, cur, rfl, hb, hg, h1, _⟩
      · exact ⟨_, _, rfl, Nat.le_refl _⟩
      · exact ⟨_, _, rfl, h1⟩
    have hlt : ∀ g, A' = some g → g.block < w6.heap.size ∧ w.heap.size ≤ g.block := fun g hg => by
      rcases h6.2 with ⟨e, _⟩ | ⟨g', cap, cur, e, hb, hg', _⟩
      · injection e with e _ _
        rw [e] at hg; cases hg
      · injection e with e _ _
        rw [e] at hg
        injection hg with hg
        rw [← hg]
        exact ⟨(Array.getElem?_eq_some_iff.1 hg').1, hb⟩
    refine ⟨A', c', rfl, fun b hb => ⟨hl.out, hcap, fun hn0 => ?_⟩, hb6.out⟩
    obtain ⟨ad', e, _, h8⟩ := (Reads.of_own h6).2 hn0
    obtain ⟨h9, h10⟩ := hlt _ e
    exact ⟨ad', e, ⟨h10, h9⟩, fun e' => by rw [e'] at h9 h10; have := hb h10; omega, h8⟩
end Go.Proofs.YtmlnhjfdhjachaaGreat
