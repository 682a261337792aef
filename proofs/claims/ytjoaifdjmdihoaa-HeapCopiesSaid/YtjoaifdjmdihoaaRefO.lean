/-
  A call on a heap and on the document's one, told apart by its kind (layer 17). No condition.
-/
import Derived.Test.YtjoaifdjmdihoaaRefN
import Derived.Deep.RegionHeld3
namespace Go.Proofs.Ytjoaifdjmdihoaa
set_option linter.unusedVariables false
open Go.ChangeShapes Go.WideShapes Go.ChangeAt Go.RowKit
open Go.ChangeMaps (setBlock)

/-- A heap, the document's one, and a block beside them. -/
structure Two (w0 : World) (F0 G0 : Nat → Prop) (hb xb : Nat) (S T : PHeap) (ob : Nat) (cs : Array Value) (F G : Nat → Prop) (W : World) : Prop where
  h : HeapIn W hb S F
  g : RefIn W xb T G
  off : Off F G
  blk : Blk W ob 34 cs
  nF : ¬ F ob
  nG : ¬ G ob
  chg : Chg (fun k => F0 k ∨ G0 k) w0 W
  fF : ∀ k, F k → F0 k ∨ w0.heap.size ≤ k
  fG : ∀ k, G k → G0 k ∨ w0.heap.size ≤ k
section
variable {w0 W W' : World} {F0 G0 F G : Nat → Prop} {hb xb ob : Nat} {S S' T T' : PHeap} {cs : Array Value}
theorem Two.below (t : Two w0 F0 G0 hb xb S T ob cs F G W) (hb1 : Below W.heap.size W W') : Two w0 F0 G0 hb xb S T ob cs F G W' :=
  ⟨t.h.below hb1, t.g.below hb1, t.off, t.blk.below hb1 t.blk.lt, t.nF, t.nG, t.chg.next_ hb1, t.fF, t.fG⟩
theorem Two.drewN (t : Two w0 F0 G0 hb xb S T ob cs F G W) (n : Nat) : Two w0 F0 G0 hb xb S T ob cs F G (W.drewN n) := t.below (below_drewN (Below.refl _ _) n)
theorem Two.drew (t : Two w0 F0 G0 hb xb S T ob cs F G W) : Two w0 F0 G0 hb xb S T ob cs F G W.drew := t.below ((Below.refl W.heap.size W).drew)
theorem Two.hturn (t : Two w0 F0 G0 hb xb S T ob cs F G W) (u : Turned F hb S' W W') : Two w0 F0 G0 hb xb S' T ob cs (nw F W W') G W' :=
  ⟨u.1, t.g.off u.2 t.off, Off.nw t.off t.g.own, t.blk.keep (u.2.block ob t.blk.lt t.nF), fun h => h.elim t.nF fun h1 => by have := t.blk.lt; omega, t.nG, t.chg.trans u.2 fun i hi => (t.fF i hi).imp .inl id, fun k hk => hk.elim (t.fF k) fun h1 => .inr (Nat.le_trans t.chg.size h1.1), t.fG⟩
theorem Two.gturn (t : Two w0 F0 G0 hb xb S T ob cs F G W) (u : RTurned G xb T' W W') : Two w0 F0 G0 hb xb S T' ob cs F (nw G W W') W' :=
  ⟨t.h.off u.2 t.off.symm, u.1, (Off.nw t.off.symm t.h.own).symm, t.blk.keep (u.2.block ob t.blk.lt t.nG), t.nF, fun h => h.elim t.nG fun h1 => by have := t.blk.lt; omega, t.chg.trans u.2 fun i hi => (t.fG i hi).imp .inr id, t.fF, fun k hk => hk.elim (t.fG k) fun h1 => .inr (Nat.le_trans t.chg.size h1.1)⟩
theorem Two.start (h : HeapIn w0 hb S F) (g : RefIn w0 xb S G) (off : Off F G) (cs : Array Value) : Two w0 F G hb xb S S w0.heap.size cs F G (w0.alloc (.cells cs 34)) :=
  ⟨h.below (Below.more_ (Below.refl _ _) _), g.below (Below.more_ (Below.refl _ _) _), off, Blk.new w0 _ cs, fun hk => by have := h.own _ hk; omega, fun hk => by have := g.own _ hk; omega, Chg.of_below (Below.more_ (Below.refl _ _) _) _, fun _ hk => .inl hk, fun _ hk => .inl hk⟩
end
def opCs (x : PAct) : Array Value := #[.int .i64 x.kind, .int .u64 x.block, .int .i64 x.cell, .int .u64 x.old, .int .u64 x.new, .string x.text]
theorem Two.cells {w0 W : World} {F0 G0 F G : Nat → Prop} {hb xb ob : Nat} {S T : PHeap} {kind block cell old new : Int} {text : ByteArray} (t : Two w0 F0 G0 hb xb S T ob #[.int .i64 kind, .int .u64 block, .int .i64 cell, .int .u64 old, .int .u64 new, .string text] F G W) :
    W.cell? ⟨ob, 1, none⟩ = some (.int .u64 block) ∧ W.cell? ⟨ob, 2, none⟩ = some (.int .i64 cell) ∧ W.cell? ⟨ob, 3, none⟩ = some (.int .u64 old) ∧ W.cell? ⟨ob, 4, none⟩ = some (.int .u64 new) ∧ W.cell? ⟨ob, 5, none⟩ = some (.string text) :=
  ⟨t.blk.cell 1, t.blk.cell 2, t.blk.cell 3, t.blk.cell 4, t.blk.cell 5⟩
theorem list_same (t : ByteArray) : (t.toList == t.toList) = true := by simp
set_option maxRecDepth 100000 in
set_option maxHeartbeats 2000000 in
theorem same_k1 {w : World} {hb xb : Nat} {S S1 : PHeap} {F G : Nat → Prop} {block cell old new : Int} {text : ByteArray} (v1 c1 : Int) (h : HeapIn w hb S F) (g : RefIn w xb S G) (off : Off F G)
    (hH : ∀ W F' G', Two w F G hb xb S S w.heap.size #[.int .i64 1, .int .u64 block, .int .i64 cell, .int .u64 old, .int .u64 new, .string text] F' G' W → Calls Try.prog 28 #[.pointer (some ⟨hb, 0, none⟩), .int .u64 block, .int .i64 cell] W fun e W' => e = .returned (.tuple #[.int .u64 v1, .int .i64 c1]) ∧ ∃ F1, Two w F G hb xb S1 S w.heap.size #[.int .i64 1, .int .u64 block, .int .i64 cell, .int .u64 old, .int .u64 new, .string text] F1 G' W')
    (hG : ∀ W F' G', Two w F G hb xb S1 S w.heap.size #[.int .i64 1, .int .u64 block, .int .i64 cell, .int .u64 old, .int .u64 new, .string text] F' G' W → Calls Try.prog 33 #[.pointer (some ⟨xb, 0, none⟩), .int .u64 block, .int .i64 cell] W fun e W' => e = .returned (.tuple #[.int .u64 v1, .int .i64 c1]) ∧ ∃ G1, Two w F G hb xb S1 S1 w.heap.size #[.int .i64 1, .int .u64 block, .int .i64 cell, .int .u64 old, .int .u64 new, .string text] F' G1 W') :
    Calls Try.prog 10 #[.pointer (some ⟨hb, 0, none⟩), .pointer (some ⟨xb, 0, none⟩), .agg #[.int .i64 1, .int .u64 block, .int .i64 cell, .int .u64 old, .int .u64 new, .string text]] w fun e w' => e = .returned (.bool true) ∧ ∃ F1 G1, Two w F G hb xb S1 S1 w.heap.size #[.int .i64 1, .int .u64 block, .int .i64 cell, .int .u64 old, .int .u64 new, .string text] F1 G1 w' := by
  have hA := Two.start h g off #[.int .i64 1, .int .u64 block, .int .i64 cell, .int .u64 old, .int .u64 new, .string text]
  clear h g off
  have hls := list_same ⟨#[]⟩
  replace hH := Lib.hid hH
  replace hG := Lib.hid hG
  replace hA := Lib.hid hA
  go_enter Try.func10, Try.ntmps10
  go_wp2_with fail
  refine (hH.out _ _ _ hA.out).mono ?_; rintro e w1 ⟨rfl, F1, hB⟩
  obtain ⟨b1, b2, b3, b4, b5⟩ := hB.cells
  replace hB := Lib.hid hB
  go_wp2_with fail
  refine (hG.out _ _ _ hB.out).mono ?_; rintro e w2 ⟨rfl, G1, hC⟩
  clear b1 b2 b3 b4 b5
  replace hC := Lib.hid hC
  go_wp2_with fail
  go_ret
  exact ⟨rfl, _, _, hC.out⟩
set_option maxRecDepth 100000 in
set_option maxHeartbeats 2000000 in
theorem same_k2 {w : World} {hb xb : Nat} {S S1 : PHeap} {F G : Nat → Prop} {block cell old new : Int} {text : ByteArray} (c1 : Int) (h : HeapIn w hb S F) (g : RefIn w xb S G) (off : Off F G)
    (hH : ∀ W F' G', Two w F G hb xb S S w.heap.size #[.int .i64 2, .int .u64 block, .int .i64 cell, .int .u64 old, .int .u64 new, .string text] F' G' W → Calls Try.prog 34 #[.pointer (some ⟨hb, 0, none⟩), .int .u64 block, .int .i64 cell, .int .u64 old] W fun e W' => e = .returned (.int .i64 c1) ∧ ∃ F1, Two w F G hb xb S1 S w.heap.size #[.int .i64 2, .int .u64 block, .int .i64 cell, .int .u64 old, .int .u64 new, .string text] F1 G' W')
    (hG : ∀ W F' G', Two w F G hb xb S1 S w.heap.size #[.int .i64 2, .int .u64 block, .int .i64 cell, .int .u64 old, .int .u64 new, .string text] F' G' W → Calls Try.prog 35 #[.pointer (some ⟨xb, 0, none⟩), .int .u64 block, .int .i64 cell, .int .u64 old] W fun e W' => e = .returned (.int .i64 c1) ∧ ∃ G1, Two w F G hb xb S1 S1 w.heap.size #[.int .i64 2, .int .u64 block, .int .i64 cell, .int .u64 old, .int .u64 new, .string text] F' G1 W') :
    Calls Try.prog 10 #[.pointer (some ⟨hb, 0, none⟩), .pointer (some ⟨xb, 0, none⟩), .agg #[.int .i64 2, .int .u64 block, .int .i64 cell, .int .u64 old, .int .u64 new, .string text]] w fun e w' => e = .returned (.bool true) ∧ ∃ F1 G1, Two w F G hb xb S1 S1 w.heap.size #[.int .i64 2, .int .u64 block, .int .i64 cell, .int .u64 old, .int .u64 new, .string text] F1 G1 w' := by
  have hA := Two.start h g off #[.int .i64 2, .int .u64 block, .int .i64 cell, .int .u64 old, .int .u64 new, .string text]
  clear h g off
  have hls := list_same ⟨#[]⟩
  replace hH := Lib.hid hH
  replace hG := Lib.hid hG
  have sA := hA.cells
  replace hA := Lib.hid hA
  go_enter Try.func10, Try.ntmps10
  go_wp2_with fail
  go_region_held3 (fun W => W.cell? ⟨w.heap.size, 1, none⟩ = some (.int .u64 block) ∧ W.cell? ⟨w.heap.size, 2, none⟩ = some (.int .i64 cell) ∧ W.cell? ⟨w.heap.size, 3, none⟩ = some (.int .u64 old) ∧ W.cell? ⟨w.heap.size, 4, none⟩ = some (.int .u64 new) ∧ W.cell? ⟨w.heap.size, 5, none⟩ = some (.string text))
    (first | assumption | go_keep)
    (first | (go_at_call 34; refine (hH.out _ _ _ (by first | exact hA.out | exact hA.out.drew | exact hA.out.drewN _)).mono ?_; rintro e w1 ⟨rfl, F1, hB⟩; have sB := hB.cells; replace hB := Lib.hid hB) | (go_at_call 35; refine (hG.out _ _ _ (by first | exact hB.out | exact hB.out.drew | exact hB.out.drewN _)).mono ?_; rintro e w2 ⟨rfl, G1, hC⟩; have sC := hC.cells; replace hC := Lib.hid hC))
  all_goals
    go_wp2_with fail
    go_ret
    first | exact ⟨rfl, _, _, hC.out⟩ | exact ⟨rfl, _, _, hC.out.drew⟩ | exact ⟨rfl, _, _, hC.out.drewN _⟩
set_option maxRecDepth 100000 in
set_option maxHeartbeats 2000000 in
theorem same_k3 {w : World} {hb xb : Nat} {S S1 : PHeap} {F G : Nat → Prop} {block cell old new : Int} {text : ByteArray} (v1 c1 : Int) (h : HeapIn w hb S F) (g : RefIn w xb S G) (off : Off F G)
    (hH : ∀ W F' G', Two w F G hb xb S S w.heap.size #[.int .i64 3, .int .u64 block, .int .i64 cell, .int .u64 old, .int .u64 new, .string text] F' G' W → Calls Try.prog 36 #[.pointer (some ⟨hb, 0, none⟩), .int .u64 block, .int .i64 cell, .int .u64 old, .int .u64 new] W fun e W' => e = .returned (.tuple #[.int .u64 v1, .int .i64 c1]) ∧ ∃ F1, Two w F G hb xb S1 S w.heap.size #[.int .i64 3, .int .u64 block, .int .i64 cell, .int .u64 old, .int .u64 new, .string text] F1 G' W')
    (hG : ∀ W F' G', Two w F G hb xb S1 S w.heap.size #[.int .i64 3, .int .u64 block, .int .i64 cell, .int .u64 old, .int .u64 new, .string text] F' G' W → Calls Try.prog 37 #[.pointer (some ⟨xb, 0, none⟩), .int .u64 block, .int .i64 cell, .int .u64 old, .int .u64 new] W fun e W' => e = .returned (.tuple #[.int .u64 v1, .int .i64 c1]) ∧ ∃ G1, Two w F G hb xb S1 S1 w.heap.size #[.int .i64 3, .int .u64 block, .int .i64 cell, .int .u64 old, .int .u64 new, .string text] F' G1 W') :
    Calls Try.prog 10 #[.pointer (some ⟨hb, 0, none⟩), .pointer (some ⟨xb, 0, none⟩), .agg #[.int .i64 3, .int .u64 block, .int .i64 cell, .int .u64 old, .int .u64 new, .string text]] w fun e w' => e = .returned (.bool true) ∧ ∃ F1 G1, Two w F G hb xb S1 S1 w.heap.size #[.int .i64 3, .int .u64 block, .int .i64 cell, .int .u64 old, .int .u64 new, .string text] F1 G1 w' := by
  have hA := Two.start h g off #[.int .i64 3, .int .u64 block, .int .i64 cell, .int .u64 old, .int .u64 new, .string text]
  clear h g off
  have hls := list_same ⟨#[]⟩
  replace hH := Lib.hid hH
  replace hG := Lib.hid hG
  replace hA := Lib.hid hA
  go_enter Try.func10, Try.ntmps10
  go_wp2_with fail
  refine (hH.out _ _ _ hA.out).mono ?_; rintro e w1 ⟨rfl, F1, hB⟩
  obtain ⟨b1, b2, b3, b4, b5⟩ := hB.cells
  replace hB := Lib.hid hB
  go_wp2_with fail
  refine (hG.out _ _ _ hB.out).mono ?_; rintro e w2 ⟨rfl, G1, hC⟩
  clear b1 b2 b3 b4 b5
  replace hC := Lib.hid hC
  go_wp2_with fail
  go_ret
  exact ⟨rfl, _, _, hC.out⟩
set_option maxRecDepth 100000 in
set_option maxHeartbeats 2000000 in
theorem same_k4 {w : World} {hb xb : Nat} {S S1 : PHeap} {F G : Nat → Prop} {block cell old new : Int} {text : ByteArray} (v1 c1 : Int) (h : HeapIn w hb S F) (g : RefIn w xb S G) (off : Off F G)
    (hH : ∀ W F' G', Two w F G hb xb S S w.heap.size #[.int .i64 4, .int .u64 block, .int .i64 cell, .int .u64 old, .int .u64 new, .string text] F' G' W → Calls Try.prog 38 #[.pointer (some ⟨hb, 0, none⟩), .int .u64 block, .int .i64 cell, .int .u64 old] W fun e W' => e = .returned (.tuple #[.int .u64 v1, .int .i64 c1]) ∧ ∃ F1, Two w F G hb xb S1 S w.heap.size #[.int .i64 4, .int .u64 block, .int .i64 cell, .int .u64 old, .int .u64 new, .string text] F1 G' W')
    (hG : ∀ W F' G', Two w F G hb xb S1 S w.heap.size #[.int .i64 4, .int .u64 block, .int .i64 cell, .int .u64 old, .int .u64 new, .string text] F' G' W → Calls Try.prog 39 #[.pointer (some ⟨xb, 0, none⟩), .int .u64 block, .int .i64 cell, .int .u64 old] W fun e W' => e = .returned (.tuple #[.int .u64 v1, .int .i64 c1]) ∧ ∃ G1, Two w F G hb xb S1 S1 w.heap.size #[.int .i64 4, .int .u64 block, .int .i64 cell, .int .u64 old, .int .u64 new, .string text] F' G1 W') :
    Calls Try.prog 10 #[.pointer (some ⟨hb, 0, none⟩), .pointer (some ⟨xb, 0, none⟩), .agg #[.int .i64 4, .int .u64 block, .int .i64 cell, .int .u64 old, .int .u64 new, .string text]] w fun e w' => e = .returned (.bool true) ∧ ∃ F1 G1, Two w F G hb xb S1 S1 w.heap.size #[.int .i64 4, .int .u64 block, .int .i64 cell, .int .u64 old, .int .u64 new, .string text] F1 G1 w' := by
  have hA := Two.start h g off #[.int .i64 4, .int .u64 block, .int .i64 cell, .int .u64 old, .int .u64 new, .string text]
  clear h g off
  have hls := list_same ⟨#[]⟩
  replace hH := Lib.hid hH
  replace hG := Lib.hid hG
  replace hA := Lib.hid hA
  go_enter Try.func10, Try.ntmps10
  go_wp2_with fail
  refine (hH.out _ _ _ hA.out).mono ?_; rintro e w1 ⟨rfl, F1, hB⟩
  obtain ⟨b1, b2, b3, b4, b5⟩ := hB.cells
  replace hB := Lib.hid hB
  go_wp2_with fail
  refine (hG.out _ _ _ hB.out).mono ?_; rintro e w2 ⟨rfl, G1, hC⟩
  clear b1 b2 b3 b4 b5
  replace hC := Lib.hid hC
  go_wp2_with fail
  go_ret
  exact ⟨rfl, _, _, hC.out⟩
set_option maxRecDepth 100000 in
set_option maxHeartbeats 2000000 in
theorem same_k5 {w : World} {hb xb : Nat} {S : PHeap} {mk : Nat → PHeap} {F G : Nat → Prop} {block cell old new : Int} {text : ByteArray} (v1 : Int) (h : HeapIn w hb S F) (g : RefIn w xb S G) (off : Off F G)
    (hH : ∀ W F' G', Two w F G hb xb S S w.heap.size #[.int .i64 5, .int .u64 block, .int .i64 cell, .int .u64 old, .int .u64 new, .string text] F' G' W → Calls Try.prog 24 #[.pointer (some ⟨hb, 0, none⟩), .int .i64 cell, .string text] W fun e W' => e = .returned (.int .u64 v1) ∧ ∃ r F1, Two w F G hb xb (mk r) S w.heap.size #[.int .i64 5, .int .u64 block, .int .i64 cell, .int .u64 old, .int .u64 new, .string text] F1 G' W')
    (hG : ∀ r W F' G', Two w F G hb xb (mk r) S w.heap.size #[.int .i64 5, .int .u64 block, .int .i64 cell, .int .u64 old, .int .u64 new, .string text] F' G' W → Calls Try.prog 40 #[.pointer (some ⟨xb, 0, none⟩), .int .i64 cell, .string text] W fun e W' => e = .returned (.int .u64 v1) ∧ ∃ G1, Two w F G hb xb (mk r) (mk r) w.heap.size #[.int .i64 5, .int .u64 block, .int .i64 cell, .int .u64 old, .int .u64 new, .string text] F' G1 W') :
    Calls Try.prog 10 #[.pointer (some ⟨hb, 0, none⟩), .pointer (some ⟨xb, 0, none⟩), .agg #[.int .i64 5, .int .u64 block, .int .i64 cell, .int .u64 old, .int .u64 new, .string text]] w fun e w' => e = .returned (.bool true) ∧ ∃ r F1 G1, Two w F G hb xb (mk r) (mk r) w.heap.size #[.int .i64 5, .int .u64 block, .int .i64 cell, .int .u64 old, .int .u64 new, .string text] F1 G1 w' := by
  have hA := Two.start h g off #[.int .i64 5, .int .u64 block, .int .i64 cell, .int .u64 old, .int .u64 new, .string text]
  clear h g off
  have hls := list_same ⟨#[]⟩
  replace hH := Lib.hid hH
  replace hG := Lib.hid hG
  have sA := hA.cells
  replace hA := Lib.hid hA
  go_enter Try.func10, Try.ntmps10
  go_wp2_with fail
  go_region_held3 (fun W => W.cell? ⟨w.heap.size, 1, none⟩ = some (.int .u64 block) ∧ W.cell? ⟨w.heap.size, 2, none⟩ = some (.int .i64 cell) ∧ W.cell? ⟨w.heap.size, 3, none⟩ = some (.int .u64 old) ∧ W.cell? ⟨w.heap.size, 4, none⟩ = some (.int .u64 new) ∧ W.cell? ⟨w.heap.size, 5, none⟩ = some (.string text))
    (first | assumption | go_keep)
    (first | (go_at_call 24; refine (hH.out _ _ _ (by first | exact hA.out | exact hA.out.drew | exact hA.out.drewN _)).mono ?_; rintro e w1 ⟨rfl, r1, F1, hB⟩; have sB := hB.cells; replace hB := Lib.hid hB) | (go_at_call 40; refine (hG.out _ _ _ _ (by first | exact hB.out | exact hB.out.drew | exact hB.out.drewN _)).mono ?_; rintro e w2 ⟨rfl, G1, hC⟩; have sC := hC.cells; replace hC := Lib.hid hC))
  all_goals
    go_wp2_with fail
    go_ret
    first | exact ⟨rfl, _, _, _, hC.out⟩ | exact ⟨rfl, _, _, _, hC.out.drew⟩ | exact ⟨rfl, _, _, _, hC.out.drewN _⟩
set_option maxRecDepth 100000 in
set_option maxHeartbeats 2000000 in
theorem same_k6 {w : World} {hb xb : Nat} {S S1 : PHeap} {F G : Nat → Prop} {block cell old new : Int} {text : ByteArray} (t1 : ByteArray) (c1 : Int) (h : HeapIn w hb S F) (g : RefIn w xb S G) (off : Off F G)
    (hH : ∀ W F' G', Two w F G hb xb S S w.heap.size #[.int .i64 6, .int .u64 block, .int .i64 cell, .int .u64 old, .int .u64 new, .string text] F' G' W → Calls Try.prog 29 #[.pointer (some ⟨hb, 0, none⟩), .int .u64 block] W fun e W' => e = .returned (.tuple #[.string t1, .int .i64 c1]) ∧ ∃ F1, Two w F G hb xb S1 S w.heap.size #[.int .i64 6, .int .u64 block, .int .i64 cell, .int .u64 old, .int .u64 new, .string text] F1 G' W')
    (hG : ∀ W F' G', Two w F G hb xb S1 S w.heap.size #[.int .i64 6, .int .u64 block, .int .i64 cell, .int .u64 old, .int .u64 new, .string text] F' G' W → Calls Try.prog 41 #[.pointer (some ⟨xb, 0, none⟩), .int .u64 block] W fun e W' => e = .returned (.tuple #[.string t1, .int .i64 c1]) ∧ ∃ G1, Two w F G hb xb S1 S1 w.heap.size #[.int .i64 6, .int .u64 block, .int .i64 cell, .int .u64 old, .int .u64 new, .string text] F' G1 W') :
    Calls Try.prog 10 #[.pointer (some ⟨hb, 0, none⟩), .pointer (some ⟨xb, 0, none⟩), .agg #[.int .i64 6, .int .u64 block, .int .i64 cell, .int .u64 old, .int .u64 new, .string text]] w fun e w' => e = .returned (.bool true) ∧ ∃ F1 G1, Two w F G hb xb S1 S1 w.heap.size #[.int .i64 6, .int .u64 block, .int .i64 cell, .int .u64 old, .int .u64 new, .string text] F1 G1 w' := by
  have hA := Two.start h g off #[.int .i64 6, .int .u64 block, .int .i64 cell, .int .u64 old, .int .u64 new, .string text]
  clear h g off
  have hls := list_same t1
  replace hH := Lib.hid hH
  replace hG := Lib.hid hG
  replace hA := Lib.hid hA
  go_enter Try.func10, Try.ntmps10
  go_wp2_with fail
  refine (hH.out _ _ _ hA.out).mono ?_; rintro e w1 ⟨rfl, F1, hB⟩
  obtain ⟨b1, b2, b3, b4, b5⟩ := hB.cells
  replace hB := Lib.hid hB
  go_wp2_with fail
  refine (hG.out _ _ _ hB.out).mono ?_; rintro e w2 ⟨rfl, G1, hC⟩
  clear b1 b2 b3 b4 b5
  replace hC := Lib.hid hC
  go_wp2_with fail
  go_ret
  exact ⟨rfl, _, _, hC.out⟩
set_option maxRecDepth 100000 in
set_option maxHeartbeats 2000000 in
theorem same_k7 {w : World} {hb xb : Nat} {S S1 : PHeap} {F G : Nat → Prop} {block cell old new : Int} {text : ByteArray} (c1 : Int) (h : HeapIn w hb S F) (g : RefIn w xb S G) (off : Off F G)
    (hH : ∀ W F' G', Two w F G hb xb S S w.heap.size #[.int .i64 7, .int .u64 block, .int .i64 cell, .int .u64 old, .int .u64 new, .string text] F' G' W → Calls Try.prog 30 #[.pointer (some ⟨hb, 0, none⟩), .int .u64 block] W fun e W' => e = .returned (.int .i64 c1) ∧ ∃ F1, Two w F G hb xb S1 S w.heap.size #[.int .i64 7, .int .u64 block, .int .i64 cell, .int .u64 old, .int .u64 new, .string text] F1 G' W')
    (hG : ∀ W F' G', Two w F G hb xb S1 S w.heap.size #[.int .i64 7, .int .u64 block, .int .i64 cell, .int .u64 old, .int .u64 new, .string text] F' G' W → Calls Try.prog 42 #[.pointer (some ⟨xb, 0, none⟩), .int .u64 block] W fun e W' => e = .returned (.int .i64 c1) ∧ ∃ G1, Two w F G hb xb S1 S1 w.heap.size #[.int .i64 7, .int .u64 block, .int .i64 cell, .int .u64 old, .int .u64 new, .string text] F' G1 W') :
    Calls Try.prog 10 #[.pointer (some ⟨hb, 0, none⟩), .pointer (some ⟨xb, 0, none⟩), .agg #[.int .i64 7, .int .u64 block, .int .i64 cell, .int .u64 old, .int .u64 new, .string text]] w fun e w' => e = .returned (.bool true) ∧ ∃ F1 G1, Two w F G hb xb S1 S1 w.heap.size #[.int .i64 7, .int .u64 block, .int .i64 cell, .int .u64 old, .int .u64 new, .string text] F1 G1 w' := by
  have hA := Two.start h g off #[.int .i64 7, .int .u64 block, .int .i64 cell, .int .u64 old, .int .u64 new, .string text]
  clear h g off
  have hls := list_same ⟨#[]⟩
  replace hH := Lib.hid hH
  replace hG := Lib.hid hG
  have sA := hA.cells
  replace hA := Lib.hid hA
  go_enter Try.func10, Try.ntmps10
  go_wp2_with fail
  go_region_held3 (fun W => W.cell? ⟨w.heap.size, 1, none⟩ = some (.int .u64 block) ∧ W.cell? ⟨w.heap.size, 2, none⟩ = some (.int .i64 cell) ∧ W.cell? ⟨w.heap.size, 3, none⟩ = some (.int .u64 old) ∧ W.cell? ⟨w.heap.size, 4, none⟩ = some (.int .u64 new) ∧ W.cell? ⟨w.heap.size, 5, none⟩ = some (.string text))
    (first | assumption | go_keep)
    (first | (go_at_call 30; refine (hH.out _ _ _ (by first | exact hA.out | exact hA.out.drew | exact hA.out.drewN _)).mono ?_; rintro e w1 ⟨rfl, F1, hB⟩; have sB := hB.cells; replace hB := Lib.hid hB) | (go_at_call 42; refine (hG.out _ _ _ (by first | exact hB.out | exact hB.out.drew | exact hB.out.drewN _)).mono ?_; rintro e w2 ⟨rfl, G1, hC⟩; have sC := hC.cells; replace hC := Lib.hid hC))
  all_goals
    go_wp2_with fail
    go_ret
    first | exact ⟨rfl, _, _, hC.out⟩ | exact ⟨rfl, _, _, hC.out.drew⟩ | exact ⟨rfl, _, _, hC.out.drewN _⟩
set_option maxRecDepth 100000 in
set_option maxHeartbeats 2000000 in
theorem same_k8 {w : World} {hb xb : Nat} {S S1 : PHeap} {F G : Nat → Prop} {block cell old new : Int} {text : ByteArray} (q1 : Bool) (h : HeapIn w hb S F) (g : RefIn w xb S G) (off : Off F G)
    (hH : ∀ W F' G', Two w F G hb xb S S w.heap.size #[.int .i64 8, .int .u64 block, .int .i64 cell, .int .u64 old, .int .u64 new, .string text] F' G' W → Calls Try.prog 31 #[.pointer (some ⟨hb, 0, none⟩)] W fun e W' => e = .returned (.bool q1) ∧ ∃ F1, Two w F G hb xb S1 S w.heap.size #[.int .i64 8, .int .u64 block, .int .i64 cell, .int .u64 old, .int .u64 new, .string text] F1 G' W')
    (hG : ∀ W F' G', Two w F G hb xb S1 S w.heap.size #[.int .i64 8, .int .u64 block, .int .i64 cell, .int .u64 old, .int .u64 new, .string text] F' G' W → Calls Try.prog 43 #[.pointer (some ⟨xb, 0, none⟩)] W fun e W' => e = .returned (.bool q1) ∧ ∃ G1, Two w F G hb xb S1 S1 w.heap.size #[.int .i64 8, .int .u64 block, .int .i64 cell, .int .u64 old, .int .u64 new, .string text] F' G1 W') :
    Calls Try.prog 10 #[.pointer (some ⟨hb, 0, none⟩), .pointer (some ⟨xb, 0, none⟩), .agg #[.int .i64 8, .int .u64 block, .int .i64 cell, .int .u64 old, .int .u64 new, .string text]] w fun e w' => e = .returned (.bool true) ∧ ∃ F1 G1, Two w F G hb xb S1 S1 w.heap.size #[.int .i64 8, .int .u64 block, .int .i64 cell, .int .u64 old, .int .u64 new, .string text] F1 G1 w' := by
  have hA := Two.start h g off #[.int .i64 8, .int .u64 block, .int .i64 cell, .int .u64 old, .int .u64 new, .string text]
  clear h g off
  have hls := list_same ⟨#[]⟩
  replace hH := Lib.hid hH
  replace hG := Lib.hid hG
  replace hA := Lib.hid hA
  go_enter Try.func10, Try.ntmps10
  go_wp2_with fail
  refine (hH.out _ _ _ hA.out).mono ?_; rintro e w1 ⟨rfl, F1, hB⟩
  obtain ⟨b1, b2, b3, b4, b5⟩ := hB.cells
  replace hB := Lib.hid hB
  go_wp2_with fail
  refine (hG.out _ _ _ hB.out).mono ?_; rintro e w2 ⟨rfl, G1, hC⟩
  clear b1 b2 b3 b4 b5
  replace hC := Lib.hid hC
  go_wp2_with fail
  go_ret
  exact ⟨rfl, _, _, hC.out⟩
set_option maxRecDepth 100000 in
set_option maxHeartbeats 2000000 in
theorem same_k9 {w : World} {hb xb : Nat} {S S1 : PHeap} {F G : Nat → Prop} {block cell old new : Int} {text : ByteArray} (q1 : Bool) (h : HeapIn w hb S F) (g : RefIn w xb S G) (off : Off F G)
    (hH : ∀ W F' G', Two w F G hb xb S S w.heap.size #[.int .i64 9, .int .u64 block, .int .i64 cell, .int .u64 old, .int .u64 new, .string text] F' G' W → Calls Try.prog 32 #[.pointer (some ⟨hb, 0, none⟩)] W fun e W' => e = .returned (.bool q1) ∧ ∃ F1, Two w F G hb xb S1 S w.heap.size #[.int .i64 9, .int .u64 block, .int .i64 cell, .int .u64 old, .int .u64 new, .string text] F1 G' W')
    (hG : ∀ W F' G', Two w F G hb xb S1 S w.heap.size #[.int .i64 9, .int .u64 block, .int .i64 cell, .int .u64 old, .int .u64 new, .string text] F' G' W → Calls Try.prog 44 #[.pointer (some ⟨xb, 0, none⟩)] W fun e W' => e = .returned (.bool q1) ∧ ∃ G1, Two w F G hb xb S1 S1 w.heap.size #[.int .i64 9, .int .u64 block, .int .i64 cell, .int .u64 old, .int .u64 new, .string text] F' G1 W') :
    Calls Try.prog 10 #[.pointer (some ⟨hb, 0, none⟩), .pointer (some ⟨xb, 0, none⟩), .agg #[.int .i64 9, .int .u64 block, .int .i64 cell, .int .u64 old, .int .u64 new, .string text]] w fun e w' => e = .returned (.bool true) ∧ ∃ F1 G1, Two w F G hb xb S1 S1 w.heap.size #[.int .i64 9, .int .u64 block, .int .i64 cell, .int .u64 old, .int .u64 new, .string text] F1 G1 w' := by
  have hA := Two.start h g off #[.int .i64 9, .int .u64 block, .int .i64 cell, .int .u64 old, .int .u64 new, .string text]
  clear h g off
  have hls := list_same ⟨#[]⟩
  replace hH := Lib.hid hH
  replace hG := Lib.hid hG
  replace hA := Lib.hid hA
  go_enter Try.func10, Try.ntmps10
  go_wp2_with fail
  refine (hH.out _ _ _ hA.out).mono ?_; rintro e w1 ⟨rfl, F1, hB⟩
  obtain ⟨b1, b2, b3, b4, b5⟩ := hB.cells
  replace hB := Lib.hid hB
  go_wp2_with fail
  refine (hG.out _ _ _ hB.out).mono ?_; rintro e w2 ⟨rfl, G1, hC⟩
  clear b1 b2 b3 b4 b5
  replace hC := Lib.hid hC
  go_wp2_with fail
  go_ret
  exact ⟨rfl, _, _, hC.out⟩
set_option maxRecDepth 100000 in
set_option maxHeartbeats 2000000 in
theorem same_k0 {w : World} {hb xb : Nat} {S : PHeap} {F G : Nat → Prop} {kind block cell old new : Int} {text : ByteArray} (h : HeapIn w hb S F) (g : RefIn w xb S G) (off : Off F G) (hk : ¬ (1 ≤ kind ∧ kind ≤ 9)) :
    Calls Try.prog 10 #[.pointer (some ⟨hb, 0, none⟩), .pointer (some ⟨xb, 0, none⟩), .agg #[.int .i64 kind, .int .u64 block, .int .i64 cell, .int .u64 old, .int .u64 new, .string text]] w fun e w' => e = .returned (.bool true) ∧ ∃ F1 G1, Two w F G hb xb S S w.heap.size #[.int .i64 kind, .int .u64 block, .int .i64 cell, .int .u64 old, .int .u64 new, .string text] F1 G1 w' := by
  have hA := Two.start h g off #[.int .i64 kind, .int .u64 block, .int .i64 cell, .int .u64 old, .int .u64 new, .string text]
  clear h g off
  have hls := list_same ⟨#[]⟩
  have d1 : (kind == 1) = false := by rw [beq_eq_false_iff_ne]; omega
  have d2 : (kind == 2) = false := by rw [beq_eq_false_iff_ne]; omega
  have d3 : (kind == 3) = false := by rw [beq_eq_false_iff_ne]; omega
  have d4 : (kind == 4) = false := by rw [beq_eq_false_iff_ne]; omega
  have d5 : (kind == 5) = false := by rw [beq_eq_false_iff_ne]; omega
  have d6 : (kind == 6) = false := by rw [beq_eq_false_iff_ne]; omega
  have d7 : (kind == 7) = false := by rw [beq_eq_false_iff_ne]; omega
  have d8 : (kind == 8) = false := by rw [beq_eq_false_iff_ne]; omega
  have d9 : (kind == 9) = false := by rw [beq_eq_false_iff_ne]; omega
  clear hk
  replace hA := Lib.hid hA
  go_enter Try.func10, Try.ntmps10
  go_wp2_with fail
  go_ret
  exact ⟨rfl, _, _, hA.out⟩
end Go.Proofs.Ytjoaifdjmdihoaa
