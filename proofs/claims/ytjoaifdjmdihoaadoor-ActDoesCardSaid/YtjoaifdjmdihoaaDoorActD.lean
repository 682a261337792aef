/-
  A heap and the document's one, side by side: what each act does (layer 18). No condition.
-/
import Derived.Test.YtjoaifdjmdihoaaDoorActF
import Derived.Test.YtjoaifdjmdihoaaDoorRefN
namespace Go.Proofs.YtjoaifdjmdihoaaDoor
set_option linter.unusedVariables false
open Go.ChangeShapes Go.WideShapes Go.ChangeAt Go.RowKit
open Go.ChangeMaps (setBlock)

structure Duet (w : World) (hb xb : Nat) (S T : PHeap) (FH FX : Nat → Prop) (W : World) : Prop where
  h : HeapIn W hb S FH
  x : RefIn W xb T FX
  off : Off FH FX
  new : ∀ k, FH k ∨ FX k → w.heap.size ≤ k
  below : Below w.heap.size w W
def DE (w : World) (hb xb : Nat) (S T : PHeap) (W : World) : Prop := ∃ FH FX, Duet w hb xb S T FH FX W
section
variable {w W W' : World} {hb xb : Nat} {S T S' T' : PHeap} {FH FX : Nat → Prop}
theorem Duet.keep (q : Duet w hb xb S T FH FX W) (hb1 : Below W.heap.size W W') : Duet w hb xb S T FH FX W' :=
  ⟨q.h.below hb1, q.x.below hb1, q.off, q.new, q.below.trans (hb1.mono q.below.size)⟩
theorem DE.keep (q : DE w hb xb S T W) (hb1 : Below W.heap.size W W') : DE w hb xb S T W' := by
  obtain ⟨a, b, q⟩ := q
  exact ⟨a, b, q.keep hb1⟩
theorem DE.drewN (q : DE w hb xb S T W) (n : Nat) : DE w hb xb S T (W.drewN n) := q.keep (below_drewN (Below.refl _ _) n)
theorem DE.drew (q : DE w hb xb S T W) : DE w hb xb S T W.drew := q.keep ((Below.refl W.heap.size W).drew)
theorem DE.below (q : DE w hb xb S T W) : Below w.heap.size w W := by
  obtain ⟨a, b, q⟩ := q
  exact q.below
theorem Duet.hturn (q : Duet w hb xb S T FH FX W) (t : Turned FH hb S' W W') : DE w hb xb S' T W' :=
  ⟨nw FH W W', FX, t.1, q.x.off t.2 q.off, Off.nw q.off q.x.own, fun k hk => by
    rcases hk with (hk | hk) | hk
    · exact q.new k (.inl hk)
    · exact Nat.le_trans q.below.size hk.1
    · exact q.new k (.inr hk), q.below.trans (t.2.below (fun k hk => q.new k (.inl hk)) q.below.size)⟩
theorem Duet.xturn (q : Duet w hb xb S T FH FX W) (t : RTurned FX xb T' W W') : DE w hb xb S T' W' :=
  ⟨FH, nw FX W W', q.h.off t.2 q.off.symm, t.1, (Off.nw q.off.symm q.h.own).symm, fun k hk => by
    rcases hk with hk | hk | hk
    · exact q.new k (.inl hk)
    · exact q.new k (.inr hk)
    · exact Nat.le_trans q.below.size hk.1, q.below.trans (t.2.below (fun k hk => q.new k (.inr hk)) q.below.size)⟩
theorem DE.ready (q : DE w hb xb S T W) (x : PAct) (hx : x.Ok) (hf : S.faults < 9223372036854775807) :
    Calls Tryd.prog 13 #[.pointer (some ⟨hb, 0, none⟩), x.val] W fun e W' => e = .returned (.bool (S.ready x)) ∧ DE w hb xb S T W' := by
  obtain ⟨a, b, q⟩ := q
  exact (ready_any q.h x hx hf).mono fun e W' ⟨he, t⟩ => ⟨he, q.hturn t⟩
theorem DE.rready (q : DE w hb xb S T W) (x : PAct) (hx : x.Ok) (hl : T.last ≤ 1000000) (hf : T.faults ≤ 1000000000) :
    Calls Tryd.prog 14 #[.pointer (some ⟨xb, 0, none⟩), x.val] W fun e W' => e = .returned (.bool (T.ready x)) ∧ DE w hb xb S T W' := by
  obtain ⟨a, b, q⟩ := q
  exact (rready_any q.x x hx hl hf).mono fun e W' ⟨he, t⟩ => ⟨he, q.xturn t⟩
theorem DE.does (q : DE w hb xb S T W) (x : PAct) (hx : x.Ok) (hf : S.faults < 9223372036854775807) (hla : S.last < 9223372036854775807) :
    Calls Tryd.prog 15 #[.pointer (some ⟨hb, 0, none⟩), x.val] W fun e W' => ∃ r, e = .returned (S.act x r).1.val ∧ DE w hb xb (S.act x r).2 T W' := by
  obtain ⟨a, b, q⟩ := q
  exact (do_any q.h x hx hf hla).mono fun e W' ⟨r, he, t⟩ => ⟨r, he, q.hturn t⟩
theorem DE.rdoes (q : DE w hb xb S T W) (x : PAct) (hx : x.Ok) (hf : T.faults ≤ 1000000000) (hla : T.last ≤ 1000000) (r : Nat) :
    Calls Tryd.prog 16 #[.pointer (some ⟨xb, 0, none⟩), x.val] W fun e W' => e = .returned (T.act x r).1.val ∧ DE w hb xb S (T.act x r).2 W' := by
  obtain ⟨a, b, q⟩ := q
  exact (rdo_any q.x x hx hf hla).mono fun e W' p => ⟨(p r).1, q.xturn (p r).2⟩
theorem DE.faults (q : DE w hb xb S T W) : Calls Tryd.prog 17 #[.pointer (some ⟨hb, 0, none⟩)] W fun e W' => e = .returned (.int .i64 S.faults) ∧ W = W' := by
  obtain ⟨a, b, q⟩ := q
  exact faults_any q.h
theorem DE.locked (q : DE w hb xb S T W) : Calls Tryd.prog 18 #[.pointer (some ⟨hb, 0, none⟩)] W fun e W' => e = .returned (.bool S.locked) ∧ W = W' := by
  obtain ⟨a, b, q⟩ := q
  exact locked_any q.h
theorem DE.cells (q : DE w hb xb S T W) : W.cell? ⟨xb, 1, none⟩ = some (.bool T.locked) ∧ W.cell? ⟨xb, 2, none⟩ = some (.int .i64 T.faults) := by
  obtain ⟨a, b, q⟩ := q
  obtain ⟨A, cap, R, h1, _⟩ := q.x.ex
  exact ⟨h1.cell 1, h1.cell 2⟩
theorem sorted_len (S : PHeap) : S.sorted.length = S.blocks.length := by unfold PHeap.sorted; simp
theorem DE.blocks (q : DE w hb xb S T W) (hn : S.blocks.length ≤ 100000) : Calls Tryd.prog 20 #[.pointer (some ⟨hb, 0, none⟩)] W fun e W' => ∃ A c, e = .returned (.slice A S.sorted.length c) ∧ Reads W' W'.heap.size 1 A S.sorted.length (S.sorted.map (Value.int .u64)) ∧ DE w hb xb S T W' ∧ Below W.heap.size W W' := by
  have q0 := q
  obtain ⟨a, b, q⟩ := q
  refine (blocks_any q.h hn).mono fun e W' ⟨v, he, ho, hb1⟩ => ?_
  obtain ⟨A, c, rfl⟩ := slice_ownB ho
  rw [← sorted_len] at ho he
  exact ⟨A, c, he, Reads.of_own ho, q0.keep hb1, hb1⟩
theorem DE.rblocks (q : DE w hb xb S S W) (hl : S.last ≤ 1000000) : Calls Tryd.prog 21 #[.pointer (some ⟨xb, 0, none⟩)] W fun e W' => ∃ A c, e = .returned (.slice A S.sorted.length c) ∧ Reads W' W'.heap.size 1 A S.sorted.length (S.sorted.map (Value.int .u64)) ∧ DE w hb xb S S W' ∧ Below W.heap.size W W' := by
  have q0 := q
  obtain ⟨a, b, q⟩ := q
  refine (rblocks_any q.x q.h.keys hl).mono fun e W' ⟨v, he, ho, hb1⟩ => ?_
  obtain ⟨A, c, rfl⟩ := slice_ownB ho
  exact ⟨A, c, he, Reads.of_own ho, q0.keep hb1, hb1⟩
end
theorem nil_ref (w : World) : RefIn (w.alloc (.cells #[.slice none 0 0, .bool false, .int .i64 0] 30)) w.heap.size ⟨[], 0, false, 0⟩ (fun k => k = w.heap.size) :=
  ⟨fun k hk => by subst hk; simp, rfl, ⟨none, 0, [], Blk.new w _ _, ⟨.inl ⟨rfl, rfl, rfl⟩, (fun b hb => by cases hb), List.nodup_nil⟩, rfl, fun i r hi => by simp at hi⟩, (fun b hb => by cases hb), Int.le_refl _⟩
/-- The two of them, just made. -/
theorem DE.start {w w1 : World} {hb : Nat} (s : Sess w hb ⟨[], 0, false, 0⟩ w1) : DE w hb w1.heap.size ⟨[], 0, false, 0⟩ ⟨[], 0, false, 0⟩ (w1.alloc (.cells #[.slice none 0 0, .bool false, .int .i64 0] 30)) := by
  obtain ⟨F, h, hF, hb0⟩ := s
  have hs := hb0.size
  refine ⟨F, _, h.below (Below.more_ (Below.refl _ _) _), nil_ref w1, fun k h1 h2 => ?_, fun k hk => ?_, hb0.alloc hb0.size _⟩
  · have := h.own k h1; omega
  · rcases hk with hk | hk
    · exact hF k hk
    · omega
theorem act_grow (S : PHeap) (x : PAct) (r : Nat) : (S.act x r).2.last ≤ S.last + 1 ∧ (S.act x r).2.faults ≤ S.faults + 1 ∧ (S.act x r).2.blocks.length ≤ S.blocks.length + 1 := by
  unfold PHeap.act
  (repeat' split) <;> (first | (show S.last ≤ S.last + 1 ∧ S.faults ≤ S.faults + 1 ∧ S.blocks.length ≤ S.blocks.length + 1; refine ⟨?_, ?_, ?_⟩ <;> omega) | (simp only [PHeap.load, PHeap.store, PHeap.swap, PHeap.bump, PHeap.make, PHeap.words, PHeap.drop, PHeap.unlock]; (repeat' split) <;> simp only [PHeap.fault, PHeap.set, List.length_map, List.length_append, List.length_cons, List.length_nil] <;> (try have := List.length_filter_le (fun y : PBlk => y.key != x.block) S.blocks) <;> refine ⟨?_, ?_, ?_⟩ <;> omega) | (refine ⟨?_, ?_, ?_⟩ <;> omega))
end Go.Proofs.YtjoaifdjmdihoaaDoor
