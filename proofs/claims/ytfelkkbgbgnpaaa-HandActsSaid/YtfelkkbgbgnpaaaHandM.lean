/-
  How a routine that hands in is made (layer 29). No condition.
-/
import Derived.Test.YtfelkkbgbgnpaaaHandT
namespace Go.Proofs.Ytfelkkbgbgnpaaa
set_option linter.unusedVariables false
open Go.ChangeShapes Go.WideShapes Go.ChangeAt Go.RowKit
open Go.ChangeMaps (setBlock)

set_option maxRecDepth 100000 in
set_option maxHeartbeats 40000000 in
theorem handNewR_any (c : PCfg) (hc : c.Right) (text : ByteArray) (w : World) : Calls Try.prog 35 #[.agg #[.int .i64 c.cap, .int .i64 c.pins, .int .i64 c.shelves, .int .i64 c.queue, .int .i64 c.watchers, .int .u64 c.seed], .string text] w fun e w' => ∃ b rb, e = .returned (.pointer (some ⟨b, 0, none⟩)) ∧ Blk w' b 165 #[.int .i64 c.cap, .int .i64 c.pins, .int .i64 c.shelves, .int .i64 c.queue, .int .i64 c.watchers, .int .u64 c.seed, .string text, .int .i64 1, .pointer (some ⟨rb, 0, none⟩), .bool false, .int .i64 0, .int .u64 0] ∧ w.heap.size ≤ b ∧ w.heap.size ≤ rb ∧ rb ≠ b ∧ ResIn w' rb (newRes c) ∧ Below w.heap.size w w' := by
  have hR := fun W => right_cfg c W
  rw [(PCfg.right_iff c).2 hc] at hR
  have hN := fun W => resNew_any c W
  rw [show PCfg.val c = .agg #[.int .i64 c.cap, .int .i64 c.pins, .int .i64 c.shelves, .int .i64 c.queue, .int .i64 c.watchers, .int .u64 c.seed] from rfl] at hR hN
  generalize newRes c = NR at *
  have B1 := Blk.new w 24 #[.int .i64 c.cap, .int .i64 c.pins, .int .i64 c.shelves, .int .i64 c.queue, .int .i64 c.watchers, .int .u64 c.seed]
  have hz : Below w.heap.size w (w.alloc (.cells #[.int .i64 c.cap, .int .i64 c.pins, .int .i64 c.shelves, .int .i64 c.queue, .int .i64 c.watchers, .int .u64 c.seed] 24)) := (Below.refl _ _).alloc (Nat.le_refl _) _
  clear hc
  obtain ⟨ca, cp, cs, cq, cw, ce⟩ := c
  simp only at hR hN B1 hz ⊢
  replace B1 := Lib.hid B1
  replace hz := Lib.hid hz
  replace hR := Lib.hid hR
  replace hN := Lib.hid hN
  go_enter Try.func35, Try.ntmps35
  go_wp2_with fail
  refine (hR.out _).mono ?_; rintro e w1 ⟨rfl, hb⟩
  have hz1 := nx hz.out (Nat.le_refl _) hb
  have B2 := B1.out.below hb (by simp)
  have d0 := B2.cell 0
  have d1 := B2.cell 1
  have d2 := B2.cell 2
  have d3 := B2.cell 3
  have d4 := B2.cell 4
  have d5 := B2.cell 5
  have hs1 := B2.lt
  clear hb
  replace B2 := Lib.hid B2
  replace hz1 := Lib.hid hz1
  go_wp2_with fail
  go_region_with (go_at_call 90; refine (hN.out _).mono ?_; rintro e w2 ⟨rb, rfl, hV, hrb, hb2⟩; have hB3 := Blk.below (w := w1.drew) B2.out hb2 hs1; have d0' := hB3.cell 0; have d1' := hB3.cell 1; have d2' := hB3.cell 2; have d3' := hB3.cell 3; have d4' := hB3.cell 4; have d5' := hB3.cell 5; have hz2 := nx (b := w1.drew) hz1.out.drew (Nat.le_refl _) hb2; replace hB3 := Lib.hid hB3; replace hz2 := Lib.hid hz2; replace hV := Lib.hid hV; clear hb2)
  all_goals
    go_wp2_with fail
    go_ret
    have hrl := hV.out.blk.lt
    have hz1s := hz1.out.size
    have hrb' : w1.heap.size ≤ rb := hrb
    exact ⟨w2.heap.size, rb, rfl, Blk.new w2 _ _, hz2.out.size, by omega, by omega, hV.out.keep (Below.heap_alloc w2 _ rb hrl), hz2.out.alloc hz2.out.size _⟩
set_option maxRecDepth 100000 in
set_option maxHeartbeats 4000000 in
theorem handNew_any (c : PCfg) (text : ByteArray) (htx : text.size ≤ 9223372036854775807) (w : World) : Calls Try.prog 35 #[c.val, .string text] w fun e w' => ∃ b, e = .returned (.pointer (some ⟨b, 0, none⟩)) ∧ HandIn w' (fun k => w.heap.size ≤ k ∧ k < w'.heap.size) b (newHand c text) ∧ w.heap.size ≤ b ∧ Below w.heap.size w w' := by
  have hR := fun W => right_cfg c W
  have hN := fun W => resNew_any c W
  have hfin : ∀ (W : World) (b rb : Nat), c.Right → Blk W b 165 #[.int .i64 c.cap, .int .i64 c.pins, .int .i64 c.shelves, .int .i64 c.queue, .int .i64 c.watchers, .int .u64 c.seed, .string text, .int .i64 1, .pointer (some ⟨rb, 0, none⟩), .bool false, .int .i64 0, .int .u64 0] → w.heap.size ≤ b → w.heap.size ≤ rb → rb ≠ b → ResIn W rb (newRes c) → HandIn W (fun k => w.heap.size ≤ k ∧ k < W.heap.size) b (newHand c text) := fun W b rb hc h1 h2 h3 h4 h5 => by
    have hn : newHand c text = ⟨c, text, 1, newRes c, false, 0, 0⟩ := by unfold newHand; rw [if_pos ((PCfg.right_iff c).2 hc)]
    rw [hn]
    exact ⟨_, h1, by show (0 : Int) ≤ 0 ∧ (0 : Int) ≤ 18446744073709551615; decide, by show (0 : Int) ≤ 0 ∧ (0 : Int) ≤ 9223372036854775807; decide, htx, .inr ⟨⟨by show (1 : Int) ≤ 1 ∧ (1 : Int) ≤ 4; decide, hc, ⟨rfl, (PCfg.right_iff c).2 hc⟩, fun _ => ⟨rfl, rfl, rfl⟩, fun e => by simp at e⟩, rb, rfl, ⟨h3, h5.blk.lt⟩, h4, h5⟩⟩
  have hno : ∀ (W : World) (b : Nat), c.right = false → Blk W b 165 #[.int .i64 0, .int .i64 0, .int .i64 0, .int .i64 0, .int .i64 0, .int .u64 0, .string ⟨#[]⟩, .int .i64 0, .pointer none, .bool false, .int .i64 0, .int .u64 0] → HandIn W (fun k => w.heap.size ≤ k ∧ k < W.heap.size) b (newHand c text) := fun W b hc h1 => by
    have hn : newHand c text = ⟨noCfgH, ByteArray.empty, 0, newRes noCfgH, false, 0, 0⟩ := by unfold newHand; rw [if_neg (by rw [hc]; decide)]
    rw [hn]
    exact ⟨_, h1, by show (0 : Int) ≤ 0 ∧ (0 : Int) ≤ 18446744073709551615; decide, by show (0 : Int) ≤ 0 ∧ (0 : Int) ≤ 9223372036854775807; decide, by show (0 : Nat) ≤ _; decide, .inl ⟨rfl, rfl⟩⟩
  have hri := PCfg.right_iff c
  generalize newHand c text = N at *
  generalize hNR : newRes c = NR at *
  generalize c.right = rt at *
  rw [show PCfg.val c = .agg #[.int .i64 c.cap, .int .i64 c.pins, .int .i64 c.shelves, .int .i64 c.queue, .int .i64 c.watchers, .int .u64 c.seed] from rfl] at *
  have B1 := Blk.new w 24 #[.int .i64 c.cap, .int .i64 c.pins, .int .i64 c.shelves, .int .i64 c.queue, .int .i64 c.watchers, .int .u64 c.seed]
  have hz : Below w.heap.size w (w.alloc (.cells #[.int .i64 c.cap, .int .i64 c.pins, .int .i64 c.shelves, .int .i64 c.queue, .int .i64 c.watchers, .int .u64 c.seed] 24)) := (Below.refl _ _).alloc (Nat.le_refl _) _
  replace B1 := Lib.hid B1
  replace hz := Lib.hid hz
  replace hR := Lib.hid hR
  replace hN := Lib.hid hN
  replace hfin := Lib.hid hfin
  replace hno := Lib.hid hno
  replace hri := Lib.hid hri
  cases rt with
  | false =>
    as_aux_lemma =>
      go_enter Try.func35, Try.ntmps35
      go_wp2_with fail
      refine (hR.out _).mono ?_; rintro e w1 ⟨rfl, hb⟩
      have hz1 := nx hz.out (Nat.le_refl _) hb
      clear hb
      replace hz1 := Lib.hid hz1
      go_wp2_with fail
      go_ret
      exact ⟨w1.heap.size, rfl, hno.out _ _ trivial (Blk.new w1 _ _), hz1.out.size, hz1.out.alloc hz1.out.size _⟩
  | true =>
    refine (handNewR_any c (hri.out.1 rfl) text w).mono ?_
    rintro e w' ⟨b, rb, rfl, h1, h2, h3, h4, h5, h6⟩
    rw [hNR] at h5
    exact ⟨b, rfl, hfin.out _ _ rb (hri.out.1 rfl) h1 h2 h3 h4 h5, h2, h6⟩
end Go.Proofs.Ytfelkkbgbgnpaaa
