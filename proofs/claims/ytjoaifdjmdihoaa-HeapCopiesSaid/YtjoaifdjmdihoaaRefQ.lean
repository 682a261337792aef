/-
  Two heaps and two of the document's, side by side (layer 17). No condition.
-/
import Derived.Test.YtjoaifdjmdihoaaRefP
import Derived.Test.YtjoaifdjmdihoaaFew
namespace Go.Proofs.Ytjoaifdjmdihoaa
set_option linter.unusedVariables false
open Go.ChangeShapes Go.WideShapes Go.ChangeAt Go.RowKit
open Go.ChangeMaps (setBlock)

/-- What stands in a cell now. -/
def rdvH (H : Array Obj) (b i : Nat) : Value := match H[b]? with
  | some (.cells cs _ _) => (cs[i]?).getD (.bool false)
  | _ => .bool false
structure Quad (w : World) (hb xb ub yb : Nat) (S T : PHeap) (FH FX FU FY : Nat → Prop) (W : World) : Prop where
  h : HeapIn W hb S FH
  x : RefIn W xb S FX
  u : HeapIn W ub T FU
  y : RefIn W yb T FY
  hx : Off FH FX
  hu : Off FH FU
  hy : Off FH FY
  xu : Off FX FU
  xy : Off FX FY
  uy : Off FU FY
  new : ∀ k, FH k ∨ FX k ∨ FU k ∨ FY k → w.heap.size ≤ k
  below : Below w.heap.size w W
def QE (w : World) (hb xb ub yb : Nat) (S T : PHeap) (W : World) : Prop := ∃ FH FX FU FY, Quad w hb xb ub yb S T FH FX FU FY W
section
variable {w W W' : World} {hb xb ub yb : Nat} {S T S' : PHeap} {FH FX FU FY : Nat → Prop}
theorem Quad.swap (q : Quad w hb xb ub yb S T FH FX FU FY W) : Quad w ub yb hb xb T S FU FY FH FX W :=
  ⟨q.u, q.y, q.h, q.x, q.uy, q.hu.symm, q.xu.symm, q.hy.symm, q.xy.symm, q.hx, fun k hk => q.new k (by rcases hk with h | h | h | h; exact .inr (.inr (.inl h)); exact .inr (.inr (.inr h)); exact .inl h; exact .inr (.inl h)), q.below⟩
theorem QE.swap (q : QE w hb xb ub yb S T W) : QE w ub yb hb xb T S W := by
  obtain ⟨a, b, c, d, q⟩ := q
  exact ⟨c, d, a, b, q.swap⟩
theorem Quad.keep (q : Quad w hb xb ub yb S T FH FX FU FY W) (hb1 : Below W.heap.size W W') : Quad w hb xb ub yb S T FH FX FU FY W' :=
  ⟨q.h.below hb1, q.x.below hb1, q.u.below hb1, q.y.below hb1, q.hx, q.hu, q.hy, q.xu, q.xy, q.uy, q.new, q.below.trans (hb1.mono q.below.size)⟩
theorem QE.keep (q : QE w hb xb ub yb S T W) (hb1 : Below W.heap.size W W') : QE w hb xb ub yb S T W' := by
  obtain ⟨a, b, c, d, q⟩ := q
  exact ⟨a, b, c, d, q.keep hb1⟩
theorem QE.drewN (q : QE w hb xb ub yb S T W) (n : Nat) : QE w hb xb ub yb S T (W.drewN n) := q.keep (below_drewN (Below.refl _ _) n)
theorem QE.drew (q : QE w hb xb ub yb S T W) : QE w hb xb ub yb S T W.drew := q.keep ((Below.refl W.heap.size W).drew)
theorem QE.below (q : QE w hb xb ub yb S T W) : Below w.heap.size w W := by
  obtain ⟨a, b, c, d, q⟩ := q
  exact q.below
theorem Quad.step (q : Quad w hb xb ub yb S T FH FX FU FY W) {ob : Nat} {cs : Array Value} {F1 G1 : Nat → Prop} (t : Two W FH FX hb xb S' S' ob cs F1 G1 W') : Quad w hb xb ub yb S' T F1 G1 FU FY W' := by
  have off : ∀ {P : Nat → Prop}, In P W → Off FH P → Off FX P → (∀ k, F1 k → P k → False) ∧ (∀ k, G1 k → P k → False) := fun hP h1 h2 => ⟨fun k hk hp => by
    rcases t.fF k hk with h | h
    · exact h1 k h hp
    · have := hP k hp; omega, fun k hk hp => by
    rcases t.fG k hk with h | h
    · exact h2 k h hp
    · have := hP k hp; omega⟩
  have hU := off q.u.own q.hu q.xu
  have hY := off q.y.own q.hy q.xy
  have hs := q.below.size
  refine ⟨t.h, t.g, q.u.off t.chg (fun k hk hp => hk.elim (fun h => q.hu k h hp) (fun h => q.xu k h hp)), q.y.off t.chg (fun k hk hp => hk.elim (fun h => q.hy k h hp) (fun h => q.xy k h hp)), t.off, hU.1, hY.1, hU.2, hY.2, q.uy, fun k hk => ?_, q.below.trans (t.chg.below (fun k hk => q.new k (hk.imp id .inl)) hs)⟩
  rcases hk with h | h | h | h
  · rcases t.fF k h with h | h
    · exact q.new k (.inl h)
    · omega
  · rcases t.fG k h with h | h
    · exact q.new k (.inr (.inl h))
    · omega
  · exact q.new k (.inr (.inr (.inl h)))
  · exact q.new k (.inr (.inr (.inr h)))
theorem QE.same1 (q : QE w hb xb ub yb S T W) (x : PAct) (hx : x.Ok) (hl : S.last ≤ 1000000) (hf : S.faults ≤ 1000000000) :
    Calls Try.prog 10 #[.pointer (some ⟨hb, 0, none⟩), .pointer (some ⟨xb, 0, none⟩), .agg (opCs x)] W fun e W' => e = .returned (.bool true) ∧ ∃ r, QE w hb xb ub yb (S.step x r) T W' := by
  obtain ⟨a, b, c, d, q⟩ := q
  exact (same_any x hx q.h q.x q.hx hl hf).mono fun e W' ⟨he, r, F1, G1, t⟩ => ⟨he, r, F1, G1, c, d, q.step t⟩
theorem QE.same2 (q : QE w hb xb ub yb S T W) (x : PAct) (hx : x.Ok) (hl : T.last ≤ 1000000) (hf : T.faults ≤ 1000000000) :
    Calls Try.prog 10 #[.pointer (some ⟨ub, 0, none⟩), .pointer (some ⟨yb, 0, none⟩), .agg (opCs x)] W fun e W' => e = .returned (.bool true) ∧ ∃ r, QE w hb xb ub yb S (T.step x r) W' :=
  (q.swap.same1 x hx hl hf).mono fun e W' ⟨he, r, q'⟩ => ⟨he, r, q'.swap⟩
theorem QE.faults (q : QE w hb xb ub yb S T W) : Calls Try.prog 12 #[.pointer (some ⟨hb, 0, none⟩)] W fun e W' => e = .returned (.int .i64 S.faults) ∧ W = W' := by
  obtain ⟨a, b, c, d, q⟩ := q
  exact faults_any q.h
theorem QE.locked (q : QE w hb xb ub yb S T W) : Calls Try.prog 16 #[.pointer (some ⟨hb, 0, none⟩)] W fun e W' => e = .returned (.bool S.locked) ∧ W = W' := by
  obtain ⟨a, b, c, d, q⟩ := q
  exact locked_any q.h
theorem QE.size (q : QE w hb xb ub yb S T W) (b : Int) : Calls Try.prog 17 #[.pointer (some ⟨hb, 0, none⟩), .int .u64 b] W fun e W' => e = .returned (.int .i64 (S.size b)) ∧ W = W' := by
  obtain ⟨a, b, c, d, q⟩ := q
  exact size_any q.h _
theorem QE.rsize (q : QE w hb xb ub yb S T W) (b : Int) (hb0 : 0 ≤ b) (hl : S.last ≤ 1000000) : Calls Try.prog 18 #[.pointer (some ⟨xb, 0, none⟩), .int .u64 b] W fun e W' => e = .returned (.int .i64 (S.size b)) ∧ W = W' := by
  obtain ⟨a, b, c, d, q⟩ := q
  exact rsize_any q.x _ hb0 hl
theorem QE.cells (q : QE w hb xb ub yb S T W) : W.cell? ⟨xb, 1, none⟩ = some (.bool S.locked) ∧ W.cell? ⟨xb, 2, none⟩ = some (.int .i64 S.faults) := by
  obtain ⟨a, b, c, d, q⟩ := q
  obtain ⟨A, cap, R, h1, _⟩ := q.x.ex
  exact ⟨h1.cell 1, h1.cell 2⟩
theorem QE.rd (q : QE w hb xb ub yb S T W) : rdvH W.heap xb 1 = .bool S.locked ∧ rdvH W.heap xb 2 = .int .i64 S.faults := by
  obtain ⟨a, b, c, d, q⟩ := q
  obtain ⟨A, cap, R, h1, _⟩ := q.x.ex
  unfold Blk at h1
  unfold rdvH
  rw [h1]
  exact ⟨rfl, rfl⟩
theorem QE.cellsR (q : QE w hb xb ub yb S T W) : W.cell? ⟨xb, 1, none⟩ = some (rdvH W.heap xb 1) ∧ W.cell? ⟨xb, 2, none⟩ = some (rdvH W.heap xb 2) := by
  rw [q.rd.1, q.rd.2]
  exact q.cells
theorem sorted_len (S : PHeap) : S.sorted.length = S.blocks.length := by unfold PHeap.sorted; simp
theorem QE.blocks (q : QE w hb xb ub yb S T W) (hn : S.blocks.length ≤ 100000) : Calls Try.prog 14 #[.pointer (some ⟨hb, 0, none⟩)] W fun e W' => ∃ A c, e = .returned (.slice A S.sorted.length c) ∧ Reads W' W'.heap.size 1 A S.sorted.length (S.sorted.map (Value.int .u64)) ∧ QE w hb xb ub yb S T W' ∧ Below W.heap.size W W' := by
  have q0 := q
  obtain ⟨a, b, c, d, q⟩ := q
  refine (blocks_any q.h hn).mono fun e W' ⟨v, he, ho, hb1⟩ => ?_
  obtain ⟨A, c, rfl⟩ := slice_ownB ho
  rw [← sorted_len] at ho he
  exact ⟨A, c, he, Reads.of_own ho, q0.keep hb1, hb1⟩
theorem QE.rblocks (q : QE w hb xb ub yb S T W) (hl : S.last ≤ 1000000) : Calls Try.prog 15 #[.pointer (some ⟨xb, 0, none⟩)] W fun e W' => ∃ A c, e = .returned (.slice A S.sorted.length c) ∧ Reads W' W'.heap.size 1 A S.sorted.length (S.sorted.map (Value.int .u64)) ∧ QE w hb xb ub yb S T W' ∧ Below W.heap.size W W' := by
  have q0 := q
  obtain ⟨a, b, c, d, q⟩ := q
  refine (rblocks_any q.x q.h.keys hl).mono fun e W' ⟨v, he, ho, hb1⟩ => ?_
  obtain ⟨A, c, rfl⟩ := slice_ownB ho
  exact ⟨A, c, he, Reads.of_own ho, q0.keep hb1, hb1⟩
end
/-- Heaps that nobody has made. -/
theorem nil_heap (w : World) : HeapIn (w.alloc (.cells #[.map none, .int .u64 0, .bool false, .int .i64 0] 42)) w.heap.size ⟨[], 0, false, 0⟩ (fun k => k = w.heap.size) :=
  ⟨fun k hk => by subst hk; simp, rfl, ⟨none, Blk.new w _ _, .inl ⟨rfl, rfl, rfl⟩⟩, (fun b hb => by cases hb), (fun b hb => by cases hb), List.nodup_nil, (fun b hb => by cases hb), Int.le_refl _, Int.le_refl _⟩
theorem nil_ref (w : World) : RefIn (w.alloc (.cells #[.slice none 0 0, .bool false, .int .i64 0] 30)) w.heap.size ⟨[], 0, false, 0⟩ (fun k => k = w.heap.size) :=
  ⟨fun k hk => by subst hk; simp, rfl, ⟨none, 0, [], Blk.new w _ _, ⟨.inl ⟨rfl, rfl, rfl⟩, (fun b hb => by cases hb), List.nodup_nil⟩, rfl, fun i r hi => by simp at hi⟩, (fun b hb => by cases hb), Int.le_refl _⟩
/-- The four of them, just made. -/
theorem QE.start {w w1 : World} {hb : Nat} (s : Sess w hb ⟨[], 0, false, 0⟩ w1) : QE w hb (w1.heap.size + 1) w1.heap.size (w1.heap.size + 1 + 1) ⟨[], 0, false, 0⟩ ⟨[], 0, false, 0⟩
    (((w1.alloc (.cells #[.map none, .int .u64 0, .bool false, .int .i64 0] 42)).alloc (.cells #[.slice none 0 0, .bool false, .int .i64 0] 30)).alloc (.cells #[.slice none 0 0, .bool false, .int .i64 0] 30)) := by
  obtain ⟨F, h, hF, hb0⟩ := s
  have hs := hb0.size
  have o := h.own
  have b1 : ∀ (W : World) (o : Obj), Below W.heap.size W (W.alloc o) := fun W o => Below.more_ (Below.refl _ _) o
  have hu := (nil_heap w1).below (b1 _ (.cells #[.slice none 0 0, .bool false, .int .i64 0] 30))
  have hx := nil_ref (w1.alloc (.cells #[.map none, .int .u64 0, .bool false, .int .i64 0] 42))
  have hy := nil_ref ((w1.alloc (.cells #[.map none, .int .u64 0, .bool false, .int .i64 0] 42)).alloc (.cells #[.slice none 0 0, .bool false, .int .i64 0] 30))
  simp only [World.size_alloc] at hx hy
  have d : ∀ (F' : Nat → Prop) (n : Nat), (∀ k, F' k → k < n) → Off F' (fun k => k = n) := fun F' n h k h1 h2 => by have := h k h1; omega
  refine ⟨F, _, _, _, ((h.below (b1 _ _)).below (b1 _ _)).below (b1 _ _), hx.below (b1 _ _), hu.below (b1 _ _), hy, fun k h1 h2 => ?_, fun k h1 h2 => ?_, fun k h1 h2 => ?_, fun k h1 h2 => ?_, fun k h1 h2 => ?_, fun k h1 h2 => ?_, fun k hk => ?_, ((hb0.alloc hb0.size _).alloc (by simp; omega) _).alloc (by simp; omega) _⟩
  · have := o k h1; omega
  · have := o k h1; omega
  · have := o k h1; omega
  · omega
  · omega
  · omega
  · rcases hk with h | h | h | h
    · exact hF k h
    · omega
    · omega
    · omega
end Go.Proofs.Ytjoaifdjmdihoaa
