/-
  A call on a heap and on a document's one that are not alike: it answers, and only these two turn (layer 17). No condition.
-/
import Derived.Test.YtjoaifdjmdihoaaRefP
namespace Go.Proofs.Ytjoaifdjmdihoaa
set_option linter.unusedVariables false
open Go.ChangeShapes Go.WideShapes Go.ChangeAt Go.RowKit
open Go.ChangeMaps (setBlock)

theorem Two.start2 {w0 : World} {F G : Nat → Prop} {hb xb : Nat} {S T : PHeap} (h : HeapIn w0 hb S F) (g : RefIn w0 xb T G) (off : Off F G) (cs : Array Value) : Two w0 F G hb xb S T w0.heap.size cs F G (w0.alloc (.cells cs 34)) :=
  ⟨h.below (Below.more_ (Below.refl _ _) _), g.below (Below.more_ (Below.refl _ _) _), off, Blk.new w0 _ cs, fun hk => by have := h.own _ hk; omega, fun hk => by have := g.own _ hk; omega, Chg.of_below (Below.more_ (Below.refl _ _) _) _, fun _ hk => .inl hk, fun _ hk => .inl hk⟩
set_option maxRecDepth 100000 in
set_option maxHeartbeats 2000000 in
theorem loose_k1 {w : World} {hb xb : Nat} {S S1 T T1 : PHeap} {F G : Nat → Prop} {block cell old new : Int} {text : ByteArray} (v1 c1 : Int) (v2 c2 : Int) (h : HeapIn w hb S F) (g : RefIn w xb T G) (off : Off F G)
    (hH : ∀ W F' G', Two w F G hb xb S T w.heap.size #[.int .i64 1, .int .u64 block, .int .i64 cell, .int .u64 old, .int .u64 new, .string text] F' G' W → Calls Try.prog 28 #[.pointer (some ⟨hb, 0, none⟩), .int .u64 block, .int .i64 cell] W fun e W' => e = .returned (.tuple #[.int .u64 v1, .int .i64 c1]) ∧ ∃ F1, Two w F G hb xb S1 T w.heap.size #[.int .i64 1, .int .u64 block, .int .i64 cell, .int .u64 old, .int .u64 new, .string text] F1 G' W')
    (hG : ∀ W F' G', Two w F G hb xb S1 T w.heap.size #[.int .i64 1, .int .u64 block, .int .i64 cell, .int .u64 old, .int .u64 new, .string text] F' G' W → Calls Try.prog 33 #[.pointer (some ⟨xb, 0, none⟩), .int .u64 block, .int .i64 cell] W fun e W' => e = .returned (.tuple #[.int .u64 v2, .int .i64 c2]) ∧ ∃ G1, Two w F G hb xb S1 T1 w.heap.size #[.int .i64 1, .int .u64 block, .int .i64 cell, .int .u64 old, .int .u64 new, .string text] F' G1 W') :
    Calls Try.prog 10 #[.pointer (some ⟨hb, 0, none⟩), .pointer (some ⟨xb, 0, none⟩), .agg #[.int .i64 1, .int .u64 block, .int .i64 cell, .int .u64 old, .int .u64 new, .string text]] w fun e w' => ∃ q, e = .returned (.bool q) ∧ ∃ F1 G1, Two w F G hb xb S1 T1 w.heap.size #[.int .i64 1, .int .u64 block, .int .i64 cell, .int .u64 old, .int .u64 new, .string text] F1 G1 w' := by
  have hA := Two.start2 h g off #[.int .i64 1, .int .u64 block, .int .i64 cell, .int .u64 old, .int .u64 new, .string text]
  clear h g off
  have hls := list_same ⟨#[]⟩
  replace hH := Lib.hid hH
  replace hG := Lib.hid hG
  replace hA := Lib.hid hA
  go_enter Try.func10, Try.ntmps10
  go_wp2_with fail
  refine (hH.out _ _ _ hA.out).mono ?_; rintro e w1 ⟨rfl, F1, hB⟩
  obtain ⟨b1, b2, b3, b4, b5⟩ := hB.cells
  replace hB := Lib.hid hB
  go_wp2_with fail
  refine (hG.out _ _ _ hB.out).mono ?_; rintro e w2 ⟨rfl, G1, hC⟩
  clear b1 b2 b3 b4 b5
  replace hC := Lib.hid hC
  obtain ⟨bv, hv⟩ : ∃ b, (v1 == v2) = b := ⟨_, rfl⟩
  obtain ⟨bc, hc⟩ : ∃ b, (c1 == c2) = b := ⟨_, rfl⟩
  cases bv <;> cases bc
  all_goals
    go_wp2_with fail
    go_ret
    exact ⟨_, rfl, _, _, hC.out⟩
set_option maxRecDepth 100000 in
set_option maxHeartbeats 2000000 in
theorem loose_k2 {w : World} {hb xb : Nat} {S S1 T T1 : PHeap} {F G : Nat → Prop} {block cell old new : Int} {text : ByteArray} (c1 : Int) (c2 : Int) (h : HeapIn w hb S F) (g : RefIn w xb T G) (off : Off F G)
    (hH : ∀ W F' G', Two w F G hb xb S T w.heap.size #[.int .i64 2, .int .u64 block, .int .i64 cell, .int .u64 old, .int .u64 new, .string text] F' G' W → Calls Try.prog 34 #[.pointer (some ⟨hb, 0, none⟩), .int .u64 block, .int .i64 cell, .int .u64 old] W fun e W' => e = .returned (.int .i64 c1) ∧ ∃ F1, Two w F G hb xb S1 T w.heap.size #[.int .i64 2, .int .u64 block, .int .i64 cell, .int .u64 old, .int .u64 new, .string text] F1 G' W')
    (hG : ∀ W F' G', Two w F G hb xb S1 T w.heap.size #[.int .i64 2, .int .u64 block, .int .i64 cell, .int .u64 old, .int .u64 new, .string text] F' G' W → Calls Try.prog 35 #[.pointer (some ⟨xb, 0, none⟩), .int .u64 block, .int .i64 cell, .int .u64 old] W fun e W' => e = .returned (.int .i64 c2) ∧ ∃ G1, Two w F G hb xb S1 T1 w.heap.size #[.int .i64 2, .int .u64 block, .int .i64 cell, .int .u64 old, .int .u64 new, .string text] F' G1 W') :
    Calls Try.prog 10 #[.pointer (some ⟨hb, 0, none⟩), .pointer (some ⟨xb, 0, none⟩), .agg #[.int .i64 2, .int .u64 block, .int .i64 cell, .int .u64 old, .int .u64 new, .string text]] w fun e w' => ∃ q, e = .returned (.bool q) ∧ ∃ F1 G1, Two w F G hb xb S1 T1 w.heap.size #[.int .i64 2, .int .u64 block, .int .i64 cell, .int .u64 old, .int .u64 new, .string text] F1 G1 w' := by
  have hA := Two.start2 h g off #[.int .i64 2, .int .u64 block, .int .i64 cell, .int .u64 old, .int .u64 new, .string text]
  clear h g off
  have hls := list_same ⟨#[]⟩
  replace hH := Lib.hid hH
  replace hG := Lib.hid hG
  have sA := hA.cells
  replace hA := Lib.hid hA
  go_enter Try.func10, Try.ntmps10
  go_wp2_with fail
  go_region_held3 (fun W => W.cell? ⟨w.heap.size, 1, none⟩ = some (.int .u64 block) ∧ W.cell? ⟨w.heap.size, 2, none⟩ = some (.int .i64 cell) ∧ W.cell? ⟨w.heap.size, 3, none⟩ = some (.int .u64 old) ∧ W.cell? ⟨w.heap.size, 4, none⟩ = some (.int .u64 new) ∧ W.cell? ⟨w.heap.size, 5, none⟩ = some (.string text))
    (first | assumption | go_keep)
    (first | (go_at_call 34; refine (hH.out _ _ _ (by first | exact hA.out | exact hA.out.drew | exact hA.out.drewN _)).mono ?_; rintro e w1 ⟨rfl, F1, hB⟩; have sB := hB.cells; replace hB := Lib.hid hB) | (go_at_call 35; refine (hG.out _ _ _ (by first | exact hB.out | exact hB.out.drew | exact hB.out.drewN _)).mono ?_; rintro e w2 ⟨rfl, G1, hC⟩; have sC := hC.cells; replace hC := Lib.hid hC))
  all_goals
    obtain ⟨bc, hc⟩ : ∃ b, (c1 == c2) = b := ⟨_, rfl⟩
    cases bc
    all_goals
      go_wp2_with fail
      go_ret
      first | exact ⟨_, rfl, _, _, hC.out⟩ | exact ⟨_, rfl, _, _, hC.out.drew⟩ | exact ⟨_, rfl, _, _, hC.out.drewN _⟩
set_option maxRecDepth 100000 in
set_option maxHeartbeats 2000000 in
theorem loose_k3 {w : World} {hb xb : Nat} {S S1 T T1 : PHeap} {F G : Nat → Prop} {block cell old new : Int} {text : ByteArray} (v1 c1 : Int) (v2 c2 : Int) (h : HeapIn w hb S F) (g : RefIn w xb T G) (off : Off F G)
    (hH : ∀ W F' G', Two w F G hb xb S T w.heap.size #[.int .i64 3, .int .u64 block, .int .i64 cell, .int .u64 old, .int .u64 new, .string text] F' G' W → Calls Try.prog 36 #[.pointer (some ⟨hb, 0, none⟩), .int .u64 block, .int .i64 cell, .int .u64 old, .int .u64 new] W fun e W' => e = .returned (.tuple #[.int .u64 v1, .int .i64 c1]) ∧ ∃ F1, Two w F G hb xb S1 T w.heap.size #[.int .i64 3, .int .u64 block, .int .i64 cell, .int .u64 old, .int .u64 new, .string text] F1 G' W')
    (hG : ∀ W F' G', Two w F G hb xb S1 T w.heap.size #[.int .i64 3, .int .u64 block, .int .i64 cell, .int .u64 old, .int .u64 new, .string text] F' G' W → Calls Try.prog 37 #[.pointer (some ⟨xb, 0, none⟩), .int .u64 block, .int .i64 cell, .int .u64 old, .int .u64 new] W fun e W' => e = .returned (.tuple #[.int .u64 v2, .int .i64 c2]) ∧ ∃ G1, Two w F G hb xb S1 T1 w.heap.size #[.int .i64 3, .int .u64 block, .int .i64 cell, .int .u64 old, .int .u64 new, .string text] F' G1 W') :
    Calls Try.prog 10 #[.pointer (some ⟨hb, 0, none⟩), .pointer (some ⟨xb, 0, none⟩), .agg #[.int .i64 3, .int .u64 block, .int .i64 cell, .int .u64 old, .int .u64 new, .string text]] w fun e w' => ∃ q, e = .returned (.bool q) ∧ ∃ F1 G1, Two w F G hb xb S1 T1 w.heap.size #[.int .i64 3, .int .u64 block, .int .i64 cell, .int .u64 old, .int .u64 new, .string text] F1 G1 w' := by
  have hA := Two.start2 h g off #[.int .i64 3, .int .u64 block, .int .i64 cell, .int .u64 old, .int .u64 new, .string text]
  clear h g off
  have hls := list_same ⟨#[]⟩
  replace hH := Lib.hid hH
  replace hG := Lib.hid hG
  replace hA := Lib.hid hA
  go_enter Try.func10, Try.ntmps10
  go_wp2_with fail
  refine (hH.out _ _ _ hA.out).mono ?_; rintro e w1 ⟨rfl, F1, hB⟩
  obtain ⟨b1, b2, b3, b4, b5⟩ := hB.cells
  replace hB := Lib.hid hB
  go_wp2_with fail
  refine (hG.out _ _ _ hB.out).mono ?_; rintro e w2 ⟨rfl, G1, hC⟩
  clear b1 b2 b3 b4 b5
  replace hC := Lib.hid hC
  obtain ⟨bv, hv⟩ : ∃ b, (v1 == v2) = b := ⟨_, rfl⟩
  obtain ⟨bc, hc⟩ : ∃ b, (c1 == c2) = b := ⟨_, rfl⟩
  cases bv <;> cases bc
  all_goals
    go_wp2_with fail
    go_ret
    exact ⟨_, rfl, _, _, hC.out⟩
set_option maxRecDepth 100000 in
set_option maxHeartbeats 2000000 in
theorem loose_k4 {w : World} {hb xb : Nat} {S S1 T T1 : PHeap} {F G : Nat → Prop} {block cell old new : Int} {text : ByteArray} (v1 c1 : Int) (v2 c2 : Int) (h : HeapIn w hb S F) (g : RefIn w xb T G) (off : Off F G)
    (hH : ∀ W F' G', Two w F G hb xb S T w.heap.size #[.int .i64 4, .int .u64 block, .int .i64 cell, .int .u64 old, .int .u64 new, .string text] F' G' W → Calls Try.prog 38 #[.pointer (some ⟨hb, 0, none⟩), .int .u64 block, .int .i64 cell, .int .u64 old] W fun e W' => e = .returned (.tuple #[.int .u64 v1, .int .i64 c1]) ∧ ∃ F1, Two w F G hb xb S1 T w.heap.size #[.int .i64 4, .int .u64 block, .int .i64 cell, .int .u64 old, .int .u64 new, .string text] F1 G' W')
    (hG : ∀ W F' G', Two w F G hb xb S1 T w.heap.size #[.int .i64 4, .int .u64 block, .int .i64 cell, .int .u64 old, .int .u64 new, .string text] F' G' W → Calls Try.prog 39 #[.pointer (some ⟨xb, 0, none⟩), .int .u64 block, .int .i64 cell, .int .u64 old] W fun e W' => e = .returned (.tuple #[.int .u64 v2, .int .i64 c2]) ∧ ∃ G1, Two w F G hb xb S1 T1 w.heap.size #[.int .i64 4, .int .u64 block, .int .i64 cell, .int .u64 old, .int .u64 new, .string text] F' G1 W') :
    Calls Try.prog 10 #[.pointer (some ⟨hb, 0, none⟩), .pointer (some ⟨xb, 0, none⟩), .agg #[.int .i64 4, .int .u64 block, .int .i64 cell, .int .u64 old, .int .u64 new, .string text]] w fun e w' => ∃ q, e = .returned (.bool q) ∧ ∃ F1 G1, Two w F G hb xb S1 T1 w.heap.size #[.int .i64 4, .int .u64 block, .int .i64 cell, .int .u64 old, .int .u64 new, .string text] F1 G1 w' := by
  have hA := Two.start2 h g off #[.int .i64 4, .int .u64 block, .int .i64 cell, .int .u64 old, .int .u64 new, .string text]
  clear h g off
  have hls := list_same ⟨#[]⟩
  replace hH := Lib.hid hH
  replace hG := Lib.hid hG
  replace hA := Lib.hid hA
  go_enter Try.func10, Try.ntmps10
  go_wp2_with fail
  refine (hH.out _ _ _ hA.out).mono ?_; rintro e w1 ⟨rfl, F1, hB⟩
  obtain ⟨b1, b2, b3, b4, b5⟩ := hB.cells
  replace hB := Lib.hid hB
  go_wp2_with fail
  refine (hG.out _ _ _ hB.out).mono ?_; rintro e w2 ⟨rfl, G1, hC⟩
  clear b1 b2 b3 b4 b5
  replace hC := Lib.hid hC
  obtain ⟨bv, hv⟩ : ∃ b, (v1 == v2) = b := ⟨_, rfl⟩
  obtain ⟨bc, hc⟩ : ∃ b, (c1 == c2) = b := ⟨_, rfl⟩
  cases bv <;> cases bc
  all_goals
    go_wp2_with fail
    go_ret
    exact ⟨_, rfl, _, _, hC.out⟩
set_option maxRecDepth 100000 in
set_option maxHeartbeats 2000000 in
theorem loose_k5 {w : World} {hb xb : Nat} {S T : PHeap} {mk mt : Nat → PHeap} {F G : Nat → Prop} {block cell old new : Int} {text : ByteArray} (v1 : Int) (v2 : Int) (h : HeapIn w hb S F) (g : RefIn w xb T G) (off : Off F G)
    (hH : ∀ W F' G', Two w F G hb xb S T w.heap.size #[.int .i64 5, .int .u64 block, .int .i64 cell, .int .u64 old, .int .u64 new, .string text] F' G' W → Calls Try.prog 24 #[.pointer (some ⟨hb, 0, none⟩), .int .i64 cell, .string text] W fun e W' => e = .returned (.int .u64 v1) ∧ ∃ r F1, Two w F G hb xb (mk r) T w.heap.size #[.int .i64 5, .int .u64 block, .int .i64 cell, .int .u64 old, .int .u64 new, .string text] F1 G' W')
    (hG : ∀ r W F' G', Two w F G hb xb (mk r) T w.heap.size #[.int .i64 5, .int .u64 block, .int .i64 cell, .int .u64 old, .int .u64 new, .string text] F' G' W → Calls Try.prog 40 #[.pointer (some ⟨xb, 0, none⟩), .int .i64 cell, .string text] W fun e W' => e = .returned (.int .u64 v2) ∧ ∃ G1, Two w F G hb xb (mk r) (mt r) w.heap.size #[.int .i64 5, .int .u64 block, .int .i64 cell, .int .u64 old, .int .u64 new, .string text] F' G1 W') :
    Calls Try.prog 10 #[.pointer (some ⟨hb, 0, none⟩), .pointer (some ⟨xb, 0, none⟩), .agg #[.int .i64 5, .int .u64 block, .int .i64 cell, .int .u64 old, .int .u64 new, .string text]] w fun e w' => ∃ q, e = .returned (.bool q) ∧ ∃ r F1 G1, Two w F G hb xb (mk r) (mt r) w.heap.size #[.int .i64 5, .int .u64 block, .int .i64 cell, .int .u64 old, .int .u64 new, .string text] F1 G1 w' := by
  have hA := Two.start2 h g off #[.int .i64 5, .int .u64 block, .int .i64 cell, .int .u64 old, .int .u64 new, .string text]
  clear h g off
  have hls := list_same ⟨#[]⟩
  replace hH := Lib.hid hH
  replace hG := Lib.hid hG
  have sA := hA.cells
  replace hA := Lib.hid hA
  go_enter Try.func10, Try.ntmps10
  go_wp2_with fail
  go_region_held3 (fun W => W.cell? ⟨w.heap.size, 1, none⟩ = some (.int .u64 block) ∧ W.cell? ⟨w.heap.size, 2, none⟩ = some (.int .i64 cell) ∧ W.cell? ⟨w.heap.size, 3, none⟩ = some (.int .u64 old) ∧ W.cell? ⟨w.heap.size, 4, none⟩ = some (.int .u64 new) ∧ W.cell? ⟨w.heap.size, 5, none⟩ = some (.string text))
    (first | assumption | go_keep)
    (first | (go_at_call 24; refine (hH.out _ _ _ (by first | exact hA.out | exact hA.out.drew | exact hA.out.drewN _)).mono ?_; rintro e w1 ⟨rfl, r1, F1, hB⟩; have sB := hB.cells; replace hB := Lib.hid hB) | (go_at_call 40; refine (hG.out _ _ _ _ (by first | exact hB.out | exact hB.out.drew | exact hB.out.drewN _)).mono ?_; rintro e w2 ⟨rfl, G1, hC⟩; have sC := hC.cells; replace hC := Lib.hid hC))
  all_goals
    obtain ⟨bv, hv⟩ : ∃ b, (v1 == v2) = b := ⟨_, rfl⟩
    cases bv
    all_goals
      go_wp2_with fail
      go_ret
      first | exact ⟨_, rfl, _, _, _, hC.out⟩ | exact ⟨_, rfl, _, _, _, hC.out.drew⟩ | exact ⟨_, rfl, _, _, _, hC.out.drewN _⟩
set_option maxRecDepth 100000 in
set_option maxHeartbeats 2000000 in
theorem loose_k6 {w : World} {hb xb : Nat} {S S1 T T1 : PHeap} {F G : Nat → Prop} {block cell old new : Int} {text : ByteArray} (t1 : ByteArray) (t2 : ByteArray) (c1 : Int) (c2 : Int) (h : HeapIn w hb S F) (g : RefIn w xb T G) (off : Off F G)
    (hH : ∀ W F' G', Two w F G hb xb S T w.heap.size #[.int .i64 6, .int .u64 block, .int .i64 cell, .int .u64 old, .int .u64 new, .string text] F' G' W → Calls Try.prog 29 #[.pointer (some ⟨hb, 0, none⟩), .int .u64 block] W fun e W' => e = .returned (.tuple #[.string t1, .int .i64 c1]) ∧ ∃ F1, Two w F G hb xb S1 T w.heap.size #[.int .i64 6, .int .u64 block, .int .i64 cell, .int .u64 old, .int .u64 new, .string text] F1 G' W')
    (hG : ∀ W F' G', Two w F G hb xb S1 T w.heap.size #[.int .i64 6, .int .u64 block, .int .i64 cell, .int .u64 old, .int .u64 new, .string text] F' G' W → Calls Try.prog 41 #[.pointer (some ⟨xb, 0, none⟩), .int .u64 block] W fun e W' => e = .returned (.tuple #[.string t2, .int .i64 c2]) ∧ ∃ G1, Two w F G hb xb S1 T1 w.heap.size #[.int .i64 6, .int .u64 block, .int .i64 cell, .int .u64 old, .int .u64 new, .string text] F' G1 W') :
    Calls Try.prog 10 #[.pointer (some ⟨hb, 0, none⟩), .pointer (some ⟨xb, 0, none⟩), .agg #[.int .i64 6, .int .u64 block, .int .i64 cell, .int .u64 old, .int .u64 new, .string text]] w fun e w' => ∃ q, e = .returned (.bool q) ∧ ∃ F1 G1, Two w F G hb xb S1 T1 w.heap.size #[.int .i64 6, .int .u64 block, .int .i64 cell, .int .u64 old, .int .u64 new, .string text] F1 G1 w' := by
  have hA := Two.start2 h g off #[.int .i64 6, .int .u64 block, .int .i64 cell, .int .u64 old, .int .u64 new, .string text]
  clear h g off
  replace hH := Lib.hid hH
  replace hG := Lib.hid hG
  replace hA := Lib.hid hA
  go_enter Try.func10, Try.ntmps10
  go_wp2_with fail
  refine (hH.out _ _ _ hA.out).mono ?_; rintro e w1 ⟨rfl, F1, hB⟩
  obtain ⟨b1, b2, b3, b4, b5⟩ := hB.cells
  replace hB := Lib.hid hB
  go_wp2_with fail
  refine (hG.out _ _ _ hB.out).mono ?_; rintro e w2 ⟨rfl, G1, hC⟩
  clear b1 b2 b3 b4 b5
  replace hC := Lib.hid hC
  obtain ⟨bc, hc⟩ : ∃ b, (c1 == c2) = b := ⟨_, rfl⟩
  obtain ⟨bt, ht⟩ : ∃ b, (t1.toList == t2.toList) = b := ⟨_, rfl⟩
  cases bc <;> cases bt
  all_goals
    go_wp2_with fail
    go_ret
    exact ⟨_, rfl, _, _, hC.out⟩
set_option maxRecDepth 100000 in
set_option maxHeartbeats 2000000 in
theorem loose_k7 {w : World} {hb xb : Nat} {S S1 T T1 : PHeap} {F G : Nat → Prop} {block cell old new : Int} {text : ByteArray} (c1 : Int) (c2 : Int) (h : HeapIn w hb S F) (g : RefIn w xb T G) (off : Off F G)
    (hH : ∀ W F' G', Two w F G hb xb S T w.heap.size #[.int .i64 7, .int .u64 block, .int .i64 cell, .int .u64 old, .int .u64 new, .string text] F' G' W → Calls Try.prog 30 #[.pointer (some ⟨hb, 0, none⟩), .int .u64 block] W fun e W' => e = .returned (.int .i64 c1) ∧ ∃ F1, Two w F G hb xb S1 T w.heap.size #[.int .i64 7, .int .u64 block, .int .i64 cell, .int .u64 old, .int .u64 new, .string text] F1 G' W')
    (hG : ∀ W F' G', Two w F G hb xb S1 T w.heap.size #[.int .i64 7, .int .u64 block, .int .i64 cell, .int .u64 old, .int .u64 new, .string text] F' G' W → Calls Try.prog 42 #[.pointer (some ⟨xb, 0, none⟩), .int .u64 block] W fun e W' => e = .returned (.int .i64 c2) ∧ ∃ G1, Two w F G hb xb S1 T1 w.heap.size #[.int .i64 7, .int .u64 block, .int .i64 cell, .int .u64 old, .int .u64 new, .string text] F' G1 W') :
    Calls Try.prog 10 #[.pointer (some ⟨hb, 0, none⟩), .pointer (some ⟨xb, 0, none⟩), .agg #[.int .i64 7, .int .u64 block, .int .i64 cell, .int .u64 old, .int .u64 new, .string text]] w fun e w' => ∃ q, e = .returned (.bool q) ∧ ∃ F1 G1, Two w F G hb xb S1 T1 w.heap.size #[.int .i64 7, .int .u64 block, .int .i64 cell, .int .u64 old, .int .u64 new, .string text] F1 G1 w' := by
  have hA := Two.start2 h g off #[.int .i64 7, .int .u64 block, .int .i64 cell, .int .u64 old, .int .u64 new, .string text]
  clear h g off
  have hls := list_same ⟨#[]⟩
  replace hH := Lib.hid hH
  replace hG := Lib.hid hG
  have sA := hA.cells
  replace hA := Lib.hid hA
  go_enter Try.func10, Try.ntmps10
  go_wp2_with fail
  go_region_held3 (fun W => W.cell? ⟨w.heap.size, 1, none⟩ = some (.int .u64 block) ∧ W.cell? ⟨w.heap.size, 2, none⟩ = some (.int .i64 cell) ∧ W.cell? ⟨w.heap.size, 3, none⟩ = some (.int .u64 old) ∧ W.cell? ⟨w.heap.size, 4, none⟩ = some (.int .u64 new) ∧ W.cell? ⟨w.heap.size, 5, none⟩ = some (.string text))
    (first | assumption | go_keep)
    (first | (go_at_call 30; refine (hH.out _ _ _ (by first | exact hA.out | exact hA.out.drew | exact hA.out.drewN _)).mono ?_; rintro e w1 ⟨rfl, F1, hB⟩; have sB := hB.cells; replace hB := Lib.hid hB) | (go_at_call 42; refine (hG.out _ _ _ (by first | exact hB.out | exact hB.out.drew | exact hB.out.drewN _)).mono ?_; rintro e w2 ⟨rfl, G1, hC⟩; have sC := hC.cells; replace hC := Lib.hid hC))
  all_goals
    obtain ⟨bc, hc⟩ : ∃ b, (c1 == c2) = b := ⟨_, rfl⟩
    cases bc
    all_goals
      go_wp2_with fail
      go_ret
      first | exact ⟨_, rfl, _, _, hC.out⟩ | exact ⟨_, rfl, _, _, hC.out.drew⟩ | exact ⟨_, rfl, _, _, hC.out.drewN _⟩
set_option maxRecDepth 100000 in
set_option maxHeartbeats 2000000 in
theorem loose_k8 {w : World} {hb xb : Nat} {S S1 T T1 : PHeap} {F G : Nat → Prop} {block cell old new : Int} {text : ByteArray} (q1 : Bool) (q2 : Bool) (h : HeapIn w hb S F) (g : RefIn w xb T G) (off : Off F G)
    (hH : ∀ W F' G', Two w F G hb xb S T w.heap.size #[.int .i64 8, .int .u64 block, .int .i64 cell, .int .u64 old, .int .u64 new, .string text] F' G' W → Calls Try.prog 31 #[.pointer (some ⟨hb, 0, none⟩)] W fun e W' => e = .returned (.bool q1) ∧ ∃ F1, Two w F G hb xb S1 T w.heap.size #[.int .i64 8, .int .u64 block, .int .i64 cell, .int .u64 old, .int .u64 new, .string text] F1 G' W')
    (hG : ∀ W F' G', Two w F G hb xb S1 T w.heap.size #[.int .i64 8, .int .u64 block, .int .i64 cell, .int .u64 old, .int .u64 new, .string text] F' G' W → Calls Try.prog 43 #[.pointer (some ⟨xb, 0, none⟩)] W fun e W' => e = .returned (.bool q2) ∧ ∃ G1, Two w F G hb xb S1 T1 w.heap.size #[.int .i64 8, .int .u64 block, .int .i64 cell, .int .u64 old, .int .u64 new, .string text] F' G1 W') :
    Calls Try.prog 10 #[.pointer (some ⟨hb, 0, none⟩), .pointer (some ⟨xb, 0, none⟩), .agg #[.int .i64 8, .int .u64 block, .int .i64 cell, .int .u64 old, .int .u64 new, .string text]] w fun e w' => ∃ q, e = .returned (.bool q) ∧ ∃ F1 G1, Two w F G hb xb S1 T1 w.heap.size #[.int .i64 8, .int .u64 block, .int .i64 cell, .int .u64 old, .int .u64 new, .string text] F1 G1 w' := by
  have hA := Two.start2 h g off #[.int .i64 8, .int .u64 block, .int .i64 cell, .int .u64 old, .int .u64 new, .string text]
  clear h g off
  have hls := list_same ⟨#[]⟩
  replace hH := Lib.hid hH
  replace hG := Lib.hid hG
  replace hA := Lib.hid hA
  go_enter Try.func10, Try.ntmps10
  go_wp2_with fail
  refine (hH.out _ _ _ hA.out).mono ?_; rintro e w1 ⟨rfl, F1, hB⟩
  obtain ⟨b1, b2, b3, b4, b5⟩ := hB.cells
  replace hB := Lib.hid hB
  go_wp2_with fail
  refine (hG.out _ _ _ hB.out).mono ?_; rintro e w2 ⟨rfl, G1, hC⟩
  clear b1 b2 b3 b4 b5
  replace hC := Lib.hid hC
  go_wp2_with fail
  go_ret
  exact ⟨_, rfl, _, _, hC.out⟩
set_option maxRecDepth 100000 in
set_option maxHeartbeats 2000000 in
theorem loose_k9 {w : World} {hb xb : Nat} {S S1 T T1 : PHeap} {F G : Nat → Prop} {block cell old new : Int} {text : ByteArray} (q1 : Bool) (q2 : Bool) (h : HeapIn w hb S F) (g : RefIn w xb T G) (off : Off F G)
    (hH : ∀ W F' G', Two w F G hb xb S T w.heap.size #[.int .i64 9, .int .u64 block, .int .i64 cell, .int .u64 old, .int .u64 new, .string text] F' G' W → Calls Try.prog 32 #[.pointer (some ⟨hb, 0, none⟩)] W fun e W' => e = .returned (.bool q1) ∧ ∃ F1, Two w F G hb xb S1 T w.heap.size #[.int .i64 9, .int .u64 block, .int .i64 cell, .int .u64 old, .int .u64 new, .string text] F1 G' W')
    (hG : ∀ W F' G', Two w F G hb xb S1 T w.heap.size #[.int .i64 9, .int .u64 block, .int .i64 cell, .int .u64 old, .int .u64 new, .string text] F' G' W → Calls Try.prog 44 #[.pointer (some ⟨xb, 0, none⟩)] W fun e W' => e = .returned (.bool q2) ∧ ∃ G1, Two w F G hb xb S1 T1 w.heap.size #[.int .i64 9, .int .u64 block, .int .i64 cell, .int .u64 old, .int .u64 new, .string text] F' G1 W') :
    Calls Try.prog 10 #[.pointer (some ⟨hb, 0, none⟩), .pointer (some ⟨xb, 0, none⟩), .agg #[.int .i64 9, .int .u64 block, .int .i64 cell, .int .u64 old, .int .u64 new, .string text]] w fun e w' => ∃ q, e = .returned (.bool q) ∧ ∃ F1 G1, Two w F G hb xb S1 T1 w.heap.size #[.int .i64 9, .int .u64 block, .int .i64 cell, .int .u64 old, .int .u64 new, .string text] F1 G1 w' := by
  have hA := Two.start2 h g off #[.int .i64 9, .int .u64 block, .int .i64 cell, .int .u64 old, .int .u64 new, .string text]
  clear h g off
  have hls := list_same ⟨#[]⟩
  replace hH := Lib.hid hH
  replace hG := Lib.hid hG
  replace hA := Lib.hid hA
  go_enter Try.func10, Try.ntmps10
  go_wp2_with fail
  refine (hH.out _ _ _ hA.out).mono ?_; rintro e w1 ⟨rfl, F1, hB⟩
  obtain ⟨b1, b2, b3, b4, b5⟩ := hB.cells
  replace hB := Lib.hid hB
  go_wp2_with fail
  refine (hG.out _ _ _ hB.out).mono ?_; rintro e w2 ⟨rfl, G1, hC⟩
  clear b1 b2 b3 b4 b5
  replace hC := Lib.hid hC
  go_wp2_with fail
  go_ret
  exact ⟨_, rfl, _, _, hC.out⟩
set_option maxRecDepth 100000 in
set_option maxHeartbeats 2000000 in
theorem loose_k0 {w : World} {hb xb : Nat} {S T : PHeap} {F G : Nat → Prop} {kind block cell old new : Int} {text : ByteArray} (h : HeapIn w hb S F) (g : RefIn w xb T G) (off : Off F G) (hk : ¬ (1 ≤ kind ∧ kind ≤ 9)) :
    Calls Try.prog 10 #[.pointer (some ⟨hb, 0, none⟩), .pointer (some ⟨xb, 0, none⟩), .agg #[.int .i64 kind, .int .u64 block, .int .i64 cell, .int .u64 old, .int .u64 new, .string text]] w fun e w' => ∃ q, e = .returned (.bool q) ∧ ∃ F1 G1, Two w F G hb xb S T w.heap.size #[.int .i64 kind, .int .u64 block, .int .i64 cell, .int .u64 old, .int .u64 new, .string text] F1 G1 w' := by
  have hA := Two.start2 h g off #[.int .i64 kind, .int .u64 block, .int .i64 cell, .int .u64 old, .int .u64 new, .string text]
  clear h g off
  have hls := list_same ⟨#[]⟩
  have d1 : (kind == 1) = false := by rw [beq_eq_false_iff_ne]; omega
  have d2 : (kind == 2) = false := by rw [beq_eq_false_iff_ne]; omega
  have d3 : (kind == 3) = false := by rw [beq_eq_false_iff_ne]; omega
  have d4 : (kind == 4) = false := by rw [beq_eq_false_iff_ne]; omega
  have d5 : (kind == 5) = false := by rw [beq_eq_false_iff_ne]; omega
  have d6 : (kind == 6) = false := by rw [beq_eq_false_iff_ne]; omega
  have d7 : (kind == 7) = false := by rw [beq_eq_false_iff_ne]; omega
  have d8 : (kind == 8) = false := by rw [beq_eq_false_iff_ne]; omega
  have d9 : (kind == 9) = false := by rw [beq_eq_false_iff_ne]; omega
  clear hk
  replace hA := Lib.hid hA
  go_enter Try.func10, Try.ntmps10
  go_wp2_with fail
  go_ret
  exact ⟨_, rfl, _, _, hA.out⟩
set_option maxHeartbeats 2000000 in
theorem loose_any {w : World} {hb xb : Nat} {S T : PHeap} {F G : Nat → Prop} (x : PAct) (hx : x.Ok) (h : HeapIn w hb S F) (g : RefIn w xb T G) (off : Off F G) (hl : S.last ≤ 1000000) (hf : S.faults ≤ 1000000000) (hlT : T.last ≤ 1000000) (hfT : T.faults ≤ 1000000000) :
    Calls Try.prog 10 #[.pointer (some ⟨hb, 0, none⟩), .pointer (some ⟨xb, 0, none⟩), .agg (opCs x)] w fun e w' => ∃ q, e = .returned (.bool q) ∧ ∃ r F1 G1, Two w F G hb xb (S.step x r) (T.step x r) w.heap.size (opCs x) F1 G1 w' := by
  obtain ⟨kind, block, cell, old, new, text⟩ := x
  obtain ⟨k0, k1, k2, k3, k4, k5⟩ := hx
  simp only at k0 k1 k2 k3 k4
  show Calls Try.prog _ #[_, _, .agg #[.int .i64 kind, .int .u64 block, .int .i64 cell, .int .u64 old, .int .u64 new, .string text]] w fun e w' => ∃ q, e = .returned (.bool q) ∧ ∃ r F1 G1, Two w F G hb xb _ _ w.heap.size #[.int .i64 kind, .int .u64 block, .int .i64 cell, .int .u64 old, .int .u64 new, .string text] F1 G1 w'
  by_cases e1 : kind = 1
  · subst e1
    refine (loose_k1 (S1 := (S.load block cell).2) (v1 := (S.load block cell).1) (c1 := S.code block cell) (T1 := (T.load block cell).2) (v2 := (T.load block cell).1) (c2 := T.code block cell) h g off (fun W F' G' t => (load_all t.h block cell k1.1 (by omega)).mono fun e W' ⟨a, b⟩ => ⟨a, _, t.hturn b⟩) (fun W F' G' t => (rload_any t.g block cell k1.1 hlT hfT).mono fun e W' ⟨a, b, _⟩ => ⟨a, _, t.gturn b⟩)).mono fun e W' ⟨q, a, F1, G1, t⟩ => ⟨q, a, 0, F1, G1, t⟩
  by_cases e2 : kind = 2
  · subst e2
    refine (loose_k2 (S1 := S.store block cell old) (c1 := S.code block cell) (T1 := T.store block cell old) (c2 := T.code block cell) h g off (fun W F' G' t => (store_all t.h block cell old k1.1 k3 (by omega)).mono fun e W' ⟨a, b⟩ => ⟨a, _, t.hturn b⟩) (fun W F' G' t => (rstore_any t.g block cell old k1.1 hlT hfT).mono fun e W' ⟨a, b⟩ => ⟨a, _, t.gturn b⟩)).mono fun e W' ⟨q, a, F1, G1, t⟩ => ⟨q, a, 0, F1, G1, t⟩
  by_cases e3 : kind = 3
  · subst e3
    refine (loose_k3 (S1 := (S.swap block cell old new).2) (v1 := (S.swap block cell old new).1) (c1 := S.code block cell) (T1 := (T.swap block cell old new).2) (v2 := (T.swap block cell old new).1) (c2 := T.code block cell) h g off (fun W F' G' t => (swap_all t.h block cell old new k1.1 k4 (by omega)).mono fun e W' ⟨a, b⟩ => ⟨a, _, t.hturn b⟩) (fun W F' G' t => (rswap_any t.g block cell old new k1.1 hlT hfT).mono fun e W' ⟨a, b⟩ => ⟨a, _, t.gturn b⟩)).mono fun e W' ⟨q, a, F1, G1, t⟩ => ⟨q, a, 0, F1, G1, t⟩
  by_cases e4 : kind = 4
  · subst e4
    refine (loose_k4 (S1 := (S.bump block cell old).2) (v1 := (S.bump block cell old).1) (c1 := S.code block cell) (T1 := (T.bump block cell old).2) (v2 := (T.bump block cell old).1) (c2 := T.code block cell) h g off (fun W F' G' t => (bump_all t.h block cell old k1.1 k3 (by omega)).mono fun e W' ⟨a, b⟩ => ⟨a, _, t.hturn b⟩) (fun W F' G' t => (rbump_any t.g block cell old k1.1 hlT hfT).mono fun e W' ⟨a, b⟩ => ⟨a, _, t.gturn b⟩)).mono fun e W' ⟨q, a, F1, G1, t⟩ => ⟨q, a, 0, F1, G1, t⟩
  by_cases e5 : kind = 5
  · subst e5
    refine (loose_k5 (mk := fun r => (S.make cell text r).2) (v1 := (S.make cell text 0).1) (mt := fun r => (T.make cell text r).2) (v2 := (T.make cell text 0).1) h g off (fun W F' G' t => (make_all t.h cell text (by omega)).mono fun e W' ⟨r, a, b⟩ => ⟨by rw [make_fst] at a; exact a, r, _, t.hturn b⟩) (fun r W F' G' t => (rmake_any t.g cell text hlT).mono fun e W' ab => ⟨by have := (ab 0).1; exact this, _, t.gturn (ab r).2⟩)).mono fun e W' ⟨q, a, r, F1, G1, t⟩ => ⟨q, a, r, F1, G1, t⟩
  by_cases e6 : kind = 6
  · subst e6
    refine (loose_k6 (S1 := (S.words block).2) (t1 := (S.words block).1) (c1 := if (S.find block).isSome then 0 else S.miss block) (T1 := (T.words block).2) (t2 := (T.words block).1) (c2 := if (T.find block).isSome then 0 else T.miss block) h g off (fun W F' G' t => (words_all t.h block k1.1 (by omega)).mono fun e W' ⟨a, b⟩ => ⟨a, _, t.hturn b⟩) (fun W F' G' t => (rwords_any t.g block k1.1 hlT hfT).mono fun e W' ⟨a, b⟩ => ⟨a, _, t.gturn b⟩)).mono fun e W' ⟨q, a, F1, G1, t⟩ => ⟨q, a, 0, F1, G1, t⟩
  by_cases e7 : kind = 7
  · subst e7
    refine (loose_k7 (S1 := S.drop block) (c1 := if (S.find block).isSome then 0 else S.miss block) (T1 := T.drop block) (c2 := if (T.find block).isSome then 0 else T.miss block) h g off (fun W F' G' t => (drop_all t.h block k1.1 (by omega)).mono fun e W' ⟨a, b⟩ => ⟨a, _, t.hturn b⟩) (fun W F' G' t => (rdrop_any t.g block k1.1 hlT hfT).mono fun e W' ⟨a, b⟩ => ⟨a, _, t.gturn b⟩)).mono fun e W' ⟨q, a, F1, G1, t⟩ => ⟨q, a, 0, F1, G1, t⟩
  by_cases e8 : kind = 8
  · subst e8
    refine (loose_k8 (S1 := S.lock) (q1 := !S.locked) (T1 := T.lock) (q2 := !T.locked) h g off (fun W F' G' t => (lock_all t.h).mono fun e W' ⟨a, b⟩ => ⟨a, _, t.hturn b⟩) (fun W F' G' t => (rlock_any t.g).mono fun e W' ⟨a, b⟩ => ⟨a, _, t.gturn b⟩)).mono fun e W' ⟨q, a, F1, G1, t⟩ => ⟨q, a, 0, F1, G1, t⟩
  by_cases e9 : kind = 9
  · subst e9
    refine (loose_k9 (S1 := S.unlock) (q1 := S.locked) (T1 := T.unlock) (q2 := T.locked) h g off (fun W F' G' t => (unlock_all t.h (by omega)).mono fun e W' ⟨a, b⟩ => ⟨a, _, t.hturn b⟩) (fun W F' G' t => (runlock_any t.g hfT).mono fun e W' ⟨a, b⟩ => ⟨a, _, t.gturn b⟩)).mono fun e W' ⟨q, a, F1, G1, t⟩ => ⟨q, a, 0, F1, G1, t⟩
  refine (loose_k0 h g off (by omega)).mono fun e W' ⟨q, a, F1, G1, t⟩ => ⟨q, a, 0, F1, G1, ?_⟩
  have h1 : ∀ U : PHeap, PHeap.step U ⟨kind, block, cell, old, new, text⟩ 0 = U := fun U => by
    unfold PHeap.step
    simp only [e1, e2, e3, e4, e5, e6, e7, e8, e9, if_false]
  rw [h1, h1]
  exact t
end Go.Proofs.Ytjoaifdjmdihoaa
