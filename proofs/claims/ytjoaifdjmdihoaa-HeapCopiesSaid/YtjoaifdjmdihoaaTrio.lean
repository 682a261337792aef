/-
  A heap, the document's one, and a copy of the heap (layer 17). No condition.
-/
import Derived.Test.YtjoaifdjmdihoaaLoose
import Derived.Test.YtjoaifdjmdihoaaRefQ
import Derived.Test.YtjoaifdjmdihoaaCopy
namespace Go.Proofs.Ytjoaifdjmdihoaa
set_option linter.unusedVariables false
open Go.ChangeShapes Go.WideShapes Go.ChangeAt Go.RowKit
open Go.ChangeMaps (setBlock)

theorem find_mem3 {S : PHeap} (hk : (S.blocks.map (·.key)).Nodup) {b : PBlk} (hb : b ∈ S.blocks) : S.find b.key = some b := by
  cases hf : S.find b.key with
  | none =>
    unfold PHeap.find at hf
    rw [List.find?_eq_none] at hf
    exact absurd (by simp) (hf b hb)
  | some x =>
    obtain ⟨h1, h2⟩ := find_mem hf
    rw [eq_of_key hk h1 hb h2]
theorem Alike.find {S T : PHeap} (a : Alike S T) (hT : (T.blocks.map (·.key)).Nodup) (k : Int) : (S.find k = none ∧ T.find k = none) ∨ ∃ x y, S.find k = some x ∧ T.find k = some y ∧ x.cells = y.cells ∧ x.text = y.text := by
  have hkeys : (S.blocks.map (·.key)).Perm (T.blocks.map (·.key)) := by
    have := a.blocks.map (·.1)
    simpa [List.map_map, Function.comp_def, PBlk.bare3] using this
  cases hs : S.find k with
  | none =>
    refine .inl ⟨rfl, ?_⟩
    cases ht : T.find k with
    | none => rfl
    | some y =>
      obtain ⟨h1, h2⟩ := find_mem ht
      have : k ∈ S.blocks.map (·.key) := hkeys.symm.subset (List.mem_map.2 ⟨y, h1, h2⟩)
      obtain ⟨x, hx, hk⟩ := List.mem_map.1 this
      unfold PHeap.find at hs
      rw [List.find?_eq_none] at hs
      exact absurd (by simpa using hk) (hs x hx)
  | some x =>
    obtain ⟨h1, h2⟩ := find_mem hs
    have : x.bare3 ∈ T.blocks.map PBlk.bare3 := a.blocks.subset (List.mem_map.2 ⟨x, h1, rfl⟩)
    obtain ⟨y, hy, he⟩ := List.mem_map.1 this
    unfold PBlk.bare3 at he
    simp only [Prod.mk.injEq] at he
    have := find_mem3 hT hy
    rw [he.1, h2] at this
    exact .inr ⟨x, y, rfl, this, he.2.1.symm, he.2.2.symm⟩
theorem RefIn.alike {w : World} {xb : Nat} {S U : PHeap} {F : Nat → Prop} (h : RefIn w xb S F) (a : Alike U S) (hk : (S.blocks.map (·.key)).Nodup) : RefIn w xb U F := by
  obtain ⟨A, cap, R, h1, h2, h3, h4⟩ := h.ex
  refine ⟨h.own, h.hF, ⟨A, cap, R, by rw [a.locked, a.faults]; exact h1, h2, by rw [a.last]; exact h3, fun i r hr => ?_⟩, fun x hx => ?_, by rw [a.faults]; exact h.faults0⟩
  · have h5 := h4 i r hr
    unfold RBlk.Tells at h5 ⊢
    rcases a.find hk ((i : Int) + 1) with ⟨e1, e2⟩ | ⟨x, y, e1, e2, e3, e4⟩
    · rw [e1]; rw [e2] at h5; exact h5
    · rw [e1]; rw [e2] at h5
      split at h5
      · cases h5
      · rw [if_neg (by assumption)]
        obtain ⟨z, hz, h6, h7⟩ := h5
        cases hz
        exact ⟨x, rfl, e3.trans h6, e4.trans h7⟩
  · have : x.bare3 ∈ S.blocks.map PBlk.bare3 := a.blocks.subset (List.mem_map.2 ⟨x, hx, rfl⟩)
    obtain ⟨y, hy, he⟩ := List.mem_map.1 this
    unfold PBlk.bare3 at he
    simp only [Prod.mk.injEq] at he
    have := h.span y hy
    rw [he.1] at this
    rw [a.last]
    exact this
structure Pair17 (w : World) (hb xb : Nat) (S T : PHeap) (FH FX : Nat → Prop) (W : World) : Prop where
  h : HeapIn W hb S FH
  x : RefIn W xb T FX
  off : Off FH FX
  new : ∀ k, FH k ∨ FX k → w.heap.size ≤ k
  below : Below w.heap.size w W
def PE (w : World) (hb xb : Nat) (S T : PHeap) (W : World) : Prop := ∃ FH FX, Pair17 w hb xb S T FH FX W
section
variable {w W W' : World} {hb xb cb : Nat} {S T U S' : PHeap} {FH FX FC : Nat → Prop}
theorem PE.keep (q : PE w hb xb S T W) (hb1 : Below W.heap.size W W') : PE w hb xb S T W' := by
  obtain ⟨a, b, q⟩ := q
  exact ⟨a, b, q.h.below hb1, q.x.below hb1, q.off, q.new, q.below.trans (hb1.mono q.below.size)⟩
theorem PE.drewN (q : PE w hb xb S T W) (n : Nat) : PE w hb xb S T (W.drewN n) := q.keep (below_drewN (Below.refl _ _) n)
theorem PE.drew (q : PE w hb xb S T W) : PE w hb xb S T W.drew := q.keep ((Below.refl W.heap.size W).drew)
theorem PE.below (q : PE w hb xb S T W) : Below w.heap.size w W := by
  obtain ⟨a, b, q⟩ := q
  exact q.below
theorem PE.same1 (q : PE w hb xb S S W) (x : PAct) (hx : x.Ok) (hl : S.last ≤ 1000000) (hf : S.faults ≤ 1000000000) :
    Calls Try.prog 10 #[.pointer (some ⟨hb, 0, none⟩), .pointer (some ⟨xb, 0, none⟩), .agg (opCs x)] W fun e W' => e = .returned (.bool true) ∧ ∃ r, PE w hb xb (S.step x r) (S.step x r) W' := by
  obtain ⟨a, b, q⟩ := q
  refine (same_any x hx q.h q.x q.off hl hf).mono fun e W' ⟨he, r, F1, G1, t⟩ => ⟨he, r, F1, G1, t.h, t.g, t.off, fun k hk => ?_, q.below.trans (t.chg.below (fun k hk => q.new k hk) q.below.size)⟩
  have := q.below.size
  rcases hk with hk | hk
  · rcases t.fF k hk with h | h
    · exact q.new k (.inl h)
    · omega
  · rcases t.fG k hk with h | h
    · exact q.new k (.inr h)
    · omega
theorem PE.faults (q : PE w hb xb S T W) : Calls Try.prog 12 #[.pointer (some ⟨hb, 0, none⟩)] W fun e W' => e = .returned (.int .i64 S.faults) ∧ W = W' := by
  obtain ⟨a, b, q⟩ := q
  exact faults_any q.h
theorem PE.cells (q : PE w hb xb S T W) : W.cell? ⟨xb, 2, none⟩ = some (.int .i64 T.faults) := by
  obtain ⟨a, b, q⟩ := q
  obtain ⟨A, cap, R, h1, _⟩ := q.x.ex
  exact h1.cell 2
theorem PE.blocks (q : PE w hb xb S T W) (hn : S.blocks.length ≤ 100000) : Calls Try.prog 14 #[.pointer (some ⟨hb, 0, none⟩)] W fun e W' => ∃ A c, e = .returned (.slice A S.sorted.length c) ∧ Reads W' W'.heap.size 1 A S.sorted.length (S.sorted.map (Value.int .u64)) ∧ PE w hb xb S T W' ∧ Below W.heap.size W W' := by
  have q0 := q
  obtain ⟨a, b, q⟩ := q
  refine (blocks_any q.h hn).mono fun e W' ⟨v, he, ho, hb1⟩ => ?_
  obtain ⟨A, c, rfl⟩ := slice_ownB ho
  rw [← sorted_len] at ho he
  exact ⟨A, c, he, Reads.of_own ho, q0.keep hb1, hb1⟩
theorem PE.rblocks (q : PE w hb xb S S W) (hl : S.last ≤ 1000000) : Calls Try.prog 15 #[.pointer (some ⟨xb, 0, none⟩)] W fun e W' => ∃ A c, e = .returned (.slice A S.sorted.length c) ∧ Reads W' W'.heap.size 1 A S.sorted.length (S.sorted.map (Value.int .u64)) ∧ PE w hb xb S S W' ∧ Below W.heap.size W W' := by
  have q0 := q
  obtain ⟨a, b, q⟩ := q
  refine (rblocks_any q.x q.h.keys hl).mono fun e W' ⟨v, he, ho, hb1⟩ => ?_
  obtain ⟨A, c, rfl⟩ := slice_ownB ho
  exact ⟨A, c, he, Reads.of_own ho, q0.keep hb1, hb1⟩
theorem PE.start {w1 : World} (s : Sess w hb ⟨[], 0, false, 0⟩ w1) : PE w hb w1.heap.size ⟨[], 0, false, 0⟩ ⟨[], 0, false, 0⟩ (w1.alloc (.cells #[.slice none 0 0, .bool false, .int .i64 0] 30)) := by
  obtain ⟨F, h, hF, hb0⟩ := s
  have hs := hb0.size
  refine ⟨F, _, h.below (Below.more_ (Below.refl _ _) _), nil_ref w1, fun k h1 h2 => ?_, fun k hk => ?_, hb0.alloc hb0.size _⟩
  · have := h.own k h1; omega
  · rcases hk with hk | hk
    · exact hF k hk
    · omega
structure Trio (w : World) (hb xb cb : Nat) (S T U : PHeap) (FH FX FC : Nat → Prop) (W : World) : Prop where
  h : HeapIn W hb S FH
  x : RefIn W xb T FX
  c : HeapIn W cb U FC
  hx : Off FH FX
  hc : Off FH FC
  cx : Off FC FX
  new : ∀ k, FH k ∨ FX k ∨ FC k → w.heap.size ≤ k
  below : Below w.heap.size w W
def TE (w : World) (hb xb cb : Nat) (S T U : PHeap) (W : World) : Prop := ∃ FH FX FC, Trio w hb xb cb S T U FH FX FC W
theorem TE.keep (q : TE w hb xb cb S T U W) (hb1 : Below W.heap.size W W') : TE w hb xb cb S T U W' := by
  obtain ⟨a, b, c, q⟩ := q
  exact ⟨a, b, c, q.h.below hb1, q.x.below hb1, q.c.below hb1, q.hx, q.hc, q.cx, q.new, q.below.trans (hb1.mono q.below.size)⟩
theorem TE.below (q : TE w hb xb cb S T U W) : Below w.heap.size w W := by
  obtain ⟨a, b, c, q⟩ := q
  exact q.below
theorem TE.rest (q : TE w hb xb cb S T U W) : PE w cb xb U T W := by
  obtain ⟨a, b, c, q⟩ := q
  exact ⟨c, b, q.c, q.x, q.cx, fun k hk => q.new k (hk.elim (fun h => .inr (.inr h)) (fun h => .inr (.inl h))), q.below⟩
theorem PE.copy (q : PE w hb xb S S W) : Calls Try.prog 11 #[.pointer (some ⟨hb, 0, none⟩)] W fun e W' => ∃ c U, e = .returned (.pointer (some ⟨c, 0, none⟩)) ∧ TE w hb xb c S U U W' ∧ Alike U S := by
  obtain ⟨a, b, q⟩ := q
  refine (copy_any q.h).mono fun e W' ⟨c, U, G, he, hU, hal, hG, hb1⟩ => ⟨c, U, he, ⟨a, b, G, q.h.below hb1, (q.x.below hb1).alike hal q.h.keys, hU, q.off, fun k h1 h2 => ?_, fun k h1 h2 => ?_, fun k hk => ?_, q.below.trans (hb1.mono q.below.size)⟩, hal⟩
  · have := q.h.own k h1
    have := hG k h2
    omega
  · have := q.x.own k h2
    have := hG k h1
    omega
  · have := q.below.size
    rcases hk with hk | hk | hk
    · exact q.new k (.inl hk)
    · exact q.new k (.inr hk)
    · have := hG k hk; omega
/-- A call on the heap and on a document's one that is made for it: the copy and its own one stay. -/
theorem TE.loose (q : TE w hb xb cb S T U W) (x : PAct) (hx : x.Ok) (hl : S.last ≤ 1000000) (hf : S.faults ≤ 1000000000) :
    Calls Try.prog 10 #[.pointer (some ⟨hb, 0, none⟩), .pointer (some ⟨W.heap.size, 0, none⟩), .agg (opCs x)] (W.alloc (.cells #[.slice none 0 0, .bool false, .int .i64 0] 30)) fun e W' => ∃ q', e = .returned (.bool q') ∧ ∃ r, TE w hb xb cb (S.step x r) T U W' := by
  obtain ⟨FH, FX, FC, q⟩ := q
  have hy := nil_ref W
  have ha : Below W.heap.size W (W.alloc (.cells #[.slice none 0 0, .bool false, .int .i64 0] 30)) := Below.more_ (Below.refl _ _) _
  have off1 : Off FH (fun k => k = W.heap.size) := fun k h1 h2 => by have := q.h.own k h1; omega
  refine (loose_any x hx (q.h.below ha) hy off1 hl hf (by decide) (by decide)).mono fun e W' ⟨b, he, r, F1, G1, t⟩ => ⟨b, he, r, F1, FX, FC, t.h, (q.x.below ha).off t.chg (fun k hk h2 => ?_), (q.c.below ha).off t.chg (fun k hk h2 => ?_), fun k h1 h2 => ?_, fun k h1 h2 => ?_, q.cx, fun k hk => ?_, ?_⟩
  · rcases hk with hk | hk
    · exact q.hx k hk h2
    · have := q.x.own k h2; omega
  · rcases hk with hk | hk
    · exact q.hc k hk h2
    · have := q.c.own k h2; omega
  · rcases t.fF k h1 with h | h
    · exact q.hx k h h2
    · have := q.x.own k h2
      have := ha.size
      omega
  · rcases t.fF k h1 with h | h
    · exact q.hc k h h2
    · have := q.c.own k h2
      have := ha.size
      omega
  · have h1 := q.below.size
    have h2 := ha.size
    rcases hk with hk | hk | hk
    · rcases t.fF k hk with h | h
      · exact q.new k (.inl h)
      · omega
    · exact q.new k (.inr (.inl hk))
    · exact q.new k (.inr (.inr hk))
  · have h1 := q.below.size
    have h2 := ha.size
    refine (q.below.trans (ha.mono h1)).trans (t.chg.below (fun k hk => ?_) (by omega))
    rcases hk with hk | hk
    · exact q.new k (.inl hk)
    · omega
end
end Go.Proofs.Ytjoaifdjmdihoaa
