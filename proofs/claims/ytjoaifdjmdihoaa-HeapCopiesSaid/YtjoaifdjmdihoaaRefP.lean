/-
  A call on a heap and on the document's one: they answer the same, and are alike behind it (layer 17). No condition.
-/
import Derived.Test.YtjoaifdjmdihoaaRefO
import Derived.Test.YtjoaifdjmdihoaaSess
namespace Go.Proofs.Ytjoaifdjmdihoaa
set_option linter.unusedVariables false
open Go.ChangeShapes Go.WideShapes Go.ChangeAt Go.RowKit
open Go.ChangeMaps (setBlock)

/-- What a call leaves of a heap. -/
def PHeap.step (S : PHeap) (x : PAct) (r : Nat) : PHeap :=
  if x.kind = 1 then (S.load x.block x.cell).2 else if x.kind = 2 then S.store x.block x.cell x.old else if x.kind = 3 then (S.swap x.block x.cell x.old x.new).2
  else if x.kind = 4 then (S.bump x.block x.cell x.old).2 else if x.kind = 5 then (S.make x.cell x.text r).2 else if x.kind = 6 then (S.words x.block).2 else if x.kind = 7 then S.drop x.block
  else if x.kind = 8 then S.lock else if x.kind = 9 then S.unlock else S
theorem make_fst (S : PHeap) (n : Int) (t : ByteArray) (r : Nat) : (S.make n t r).1 = (S.make n t 0).1 := by unfold PHeap.make; split <;> rfl
theorem step_grow (S : PHeap) (x : PAct) (r : Nat) : (S.step x r).last ≤ S.last + 1 ∧ (S.step x r).faults ≤ S.faults + 1 ∧ (S.step x r).blocks.length ≤ S.blocks.length + 1 := by
  unfold PHeap.step
  (repeat' split) <;> (first | (show S.last ≤ S.last + 1 ∧ S.faults ≤ S.faults + 1 ∧ S.blocks.length ≤ S.blocks.length + 1; refine ⟨?_, ?_, ?_⟩ <;> omega) | (simp only [PHeap.load, PHeap.store, PHeap.swap, PHeap.bump, PHeap.make, PHeap.words, PHeap.drop, PHeap.unlock]; (repeat' split) <;> simp only [PHeap.fault, PHeap.set, List.length_map, List.length_append, List.length_cons, List.length_nil] <;> (try have := List.length_filter_le (fun y : PBlk => y.key != x.block) S.blocks) <;> refine ⟨?_, ?_, ?_⟩ <;> omega) | (refine ⟨?_, ?_, ?_⟩ <;> omega))
/-- Two heaps with the same keys. -/
def KeyLike (S T : PHeap) : Prop := S.blocks.map (·.key) = T.blocks.map (·.key) ∧ S.last = T.last
theorem set_keys (S : PHeap) (b : Int) (i : Nat) (v : Int) : (S.set b i v).blocks.map (·.key) = S.blocks.map (·.key) := by
  unfold PHeap.set
  simp only [List.map_map]
  apply List.map_congr_left
  intro x _
  simp only [Function.comp]
  split <;> rfl
theorem step_keys (S : PHeap) (x : PAct) (r : Nat) : (S.step x r).blocks.map (·.key) = (if x.kind = 5 ∧ 0 ≤ x.cell ∧ x.cell ≤ 256 then S.blocks.map (·.key) ++ [S.last + 1] else if x.kind = 7 then (S.blocks.map (·.key)).filter (fun z => z != x.block) else S.blocks.map (·.key)) ∧ (S.step x r).last = (if x.kind = 5 ∧ 0 ≤ x.cell ∧ x.cell ≤ 256 then S.last + 1 else S.last) := by
  have hst : ∀ b i v, (S.store b i v).blocks.map (·.key) = S.blocks.map (·.key) ∧ (S.store b i v).last = S.last := fun b i v => by
    unfold PHeap.store; split
    · exact ⟨set_keys _ _ _ _, rfl⟩
    · exact ⟨rfl, rfl⟩
  unfold PHeap.step
  by_cases h1 : x.kind = 1
  · rw [if_pos h1, if_neg (by omega), if_neg (by omega), if_neg (by omega)]
    unfold PHeap.load; split <;> exact ⟨rfl, rfl⟩
  rw [if_neg h1]
  by_cases h2 : x.kind = 2
  · rw [if_pos h2, if_neg (by omega), if_neg (by omega), if_neg (by omega)]
    exact hst _ _ _
  rw [if_neg h2]
  by_cases h3 : x.kind = 3
  · rw [if_pos h3, if_neg (by omega), if_neg (by omega), if_neg (by omega)]
    unfold PHeap.swap
    split
    · show (if S.word x.block x.cell = x.old then S.set x.block x.cell.toNat x.new else S).blocks.map _ = _ ∧ (if S.word x.block x.cell = x.old then S.set x.block x.cell.toNat x.new else S).last = _
      split
      · exact ⟨set_keys _ _ _ _, rfl⟩
      · exact ⟨rfl, rfl⟩
    · exact ⟨rfl, rfl⟩
  rw [if_neg h3]
  by_cases h4 : x.kind = 4
  · rw [if_pos h4, if_neg (by omega), if_neg (by omega), if_neg (by omega)]
    unfold PHeap.bump
    split
    · exact ⟨set_keys _ _ _ _, rfl⟩
    · exact ⟨rfl, rfl⟩
  rw [if_neg h4]
  by_cases h5 : x.kind = 5
  · rw [if_pos h5]
    unfold PHeap.make
    by_cases h : 0 ≤ x.cell ∧ x.cell ≤ 256
    · rw [if_pos h, if_pos ⟨h5, h⟩, if_pos ⟨h5, h⟩]
      exact ⟨by simp, rfl⟩
    · have n1 : ¬ (x.kind = 5 ∧ 0 ≤ x.cell ∧ x.cell ≤ 256) := fun k => h k.2
      have n7 : ¬ x.kind = 7 := by omega
      rw [if_neg h, if_neg n1, if_neg n7, if_neg n1]
      exact ⟨rfl, rfl⟩
  have n1 : ¬ (x.kind = 5 ∧ 0 ≤ x.cell ∧ x.cell ≤ 256) := fun k => h5 k.1
  rw [if_neg h5, if_neg n1, if_neg n1]
  by_cases h6 : x.kind = 6
  · rw [if_pos h6, if_neg (by omega)]
    unfold PHeap.words; split <;> exact ⟨rfl, rfl⟩
  rw [if_neg h6]
  by_cases h7 : x.kind = 7
  · rw [if_pos h7, if_pos h7]
    unfold PHeap.drop
    cases hx : S.find x.block with
    | some y =>
      refine ⟨?_, rfl⟩
      show (S.blocks.filter fun y => y.key != x.block).map (·.key) = _
      rw [List.filter_map]
      rfl
    | none =>
      refine ⟨?_, rfl⟩
      show S.blocks.map (·.key) = _
      rw [List.filter_eq_self.2]
      intro z hz
      obtain ⟨y, hy, rfl⟩ := List.mem_map.1 hz
      unfold PHeap.find at hx
      rw [List.find?_eq_none] at hx
      have := hx y hy
      simpa using this
  rw [if_neg h7, if_neg h7]
  by_cases h8 : x.kind = 8
  · rw [if_pos h8]; exact ⟨rfl, rfl⟩
  rw [if_neg h8]
  by_cases h9 : x.kind = 9
  · rw [if_pos h9]
    unfold PHeap.unlock; split <;> exact ⟨rfl, rfl⟩
  rw [if_neg h9]
  exact ⟨rfl, rfl⟩
theorem KeyLike.step {S T : PHeap} (h : KeyLike S T) (x : PAct) (r r' : Nat) : KeyLike (S.step x r) (T.step x r') := by
  obtain ⟨a, b⟩ := step_keys S x r
  obtain ⟨c, d⟩ := step_keys T x r'
  exact ⟨by rw [a, c, h.1, h.2], by rw [b, d, h.2]⟩
theorem KeyLike.sorted {S T : PHeap} (h : KeyLike S T) : S.sorted = T.sorted := by unfold PHeap.sorted; rw [h.1]
set_option maxHeartbeats 2000000 in
theorem same_any {w : World} {hb xb : Nat} {S : PHeap} {F G : Nat → Prop} (x : PAct) (hx : x.Ok) (h : HeapIn w hb S F) (g : RefIn w xb S G) (off : Off F G) (hl : S.last ≤ 1000000) (hf : S.faults ≤ 1000000000) :
    Calls Try.prog 10 #[.pointer (some ⟨hb, 0, none⟩), .pointer (some ⟨xb, 0, none⟩), .agg (opCs x)] w fun e w' => e = .returned (.bool true) ∧ ∃ r F1 G1, Two w F G hb xb (S.step x r) (S.step x r) w.heap.size (opCs x) F1 G1 w' := by
  obtain ⟨kind, block, cell, old, new, text⟩ := x
  obtain ⟨k0, k1, k2, k3, k4, k5⟩ := hx
  simp only at k0 k1 k2 k3 k4
  show Calls Try.prog _ #[_, _, .agg #[.int .i64 kind, .int .u64 block, .int .i64 cell, .int .u64 old, .int .u64 new, .string text]] w fun e w' => e = .returned (.bool true) ∧ ∃ r F1 G1, Two w F G hb xb _ _ w.heap.size #[.int .i64 kind, .int .u64 block, .int .i64 cell, .int .u64 old, .int .u64 new, .string text] F1 G1 w'
  by_cases e1 : kind = 1
  · subst e1
    refine (same_k1 (S1 := (S.load block cell).2) (v1 := (S.load block cell).1) (c1 := S.code block cell) h g off (fun W F' G' t => (load_all t.h block cell k1.1 (by omega)).mono fun e W' ⟨a, b⟩ => ⟨a, _, t.hturn b⟩) (fun W F' G' t => (rload_any t.g block cell k1.1 hl hf).mono fun e W' ⟨a, b, _⟩ => ⟨a, _, t.gturn b⟩)).mono fun e W' ⟨a, F1, G1, t⟩ => ⟨a, 0, F1, G1, t⟩
  by_cases e2 : kind = 2
  · subst e2
    refine (same_k2 (S1 := S.store block cell old) (c1 := S.code block cell) h g off (fun W F' G' t => (store_all t.h block cell old k1.1 k3 (by omega)).mono fun e W' ⟨a, b⟩ => ⟨a, _, t.hturn b⟩) (fun W F' G' t => (rstore_any t.g block cell old k1.1 hl hf).mono fun e W' ⟨a, b⟩ => ⟨a, _, t.gturn b⟩)).mono fun e W' ⟨a, F1, G1, t⟩ => ⟨a, 0, F1, G1, t⟩
  by_cases e3 : kind = 3
  · subst e3
    refine (same_k3 (S1 := (S.swap block cell old new).2) (v1 := (S.swap block cell old new).1) (c1 := S.code block cell) h g off (fun W F' G' t => (swap_all t.h block cell old new k1.1 k4 (by omega)).mono fun e W' ⟨a, b⟩ => ⟨a, _, t.hturn b⟩) (fun W F' G' t => (rswap_any t.g block cell old new k1.1 hl hf).mono fun e W' ⟨a, b⟩ => ⟨a, _, t.gturn b⟩)).mono fun e W' ⟨a, F1, G1, t⟩ => ⟨a, 0, F1, G1, t⟩
  by_cases e4 : kind = 4
  · subst e4
    refine (same_k4 (S1 := (S.bump block cell old).2) (v1 := (S.bump block cell old).1) (c1 := S.code block cell) h g off (fun W F' G' t => (bump_all t.h block cell old k1.1 k3 (by omega)).mono fun e W' ⟨a, b⟩ => ⟨a, _, t.hturn b⟩) (fun W F' G' t => (rbump_any t.g block cell old k1.1 hl hf).mono fun e W' ⟨a, b⟩ => ⟨a, _, t.gturn b⟩)).mono fun e W' ⟨a, F1, G1, t⟩ => ⟨a, 0, F1, G1, t⟩
  by_cases e5 : kind = 5
  · subst e5
    refine (same_k5 (mk := fun r => (S.make cell text r).2) (v1 := (S.make cell text 0).1) h g off (fun W F' G' t => (make_all t.h cell text (by omega)).mono fun e W' ⟨r, a, b⟩ => ⟨by rw [make_fst] at a; exact a, r, _, t.hturn b⟩) (fun r W F' G' t => (rmake_any t.g cell text hl).mono fun e W' ab => ⟨by have := (ab 0).1; exact this, _, t.gturn (ab r).2⟩)).mono fun e W' ⟨a, r, F1, G1, t⟩ => ⟨a, r, F1, G1, t⟩
  by_cases e6 : kind = 6
  · subst e6
    refine (same_k6 (S1 := (S.words block).2) (t1 := (S.words block).1) (c1 := if (S.find block).isSome then 0 else S.miss block) h g off (fun W F' G' t => (words_all t.h block k1.1 (by omega)).mono fun e W' ⟨a, b⟩ => ⟨a, _, t.hturn b⟩) (fun W F' G' t => (rwords_any t.g block k1.1 hl hf).mono fun e W' ⟨a, b⟩ => ⟨a, _, t.gturn b⟩)).mono fun e W' ⟨a, F1, G1, t⟩ => ⟨a, 0, F1, G1, t⟩
  by_cases e7 : kind = 7
  · subst e7
    refine (same_k7 (S1 := S.drop block) (c1 := if (S.find block).isSome then 0 else S.miss block) h g off (fun W F' G' t => (drop_all t.h block k1.1 (by omega)).mono fun e W' ⟨a, b⟩ => ⟨a, _, t.hturn b⟩) (fun W F' G' t => (rdrop_any t.g block k1.1 hl hf).mono fun e W' ⟨a, b⟩ => ⟨a, _, t.gturn b⟩)).mono fun e W' ⟨a, F1, G1, t⟩ => ⟨a, 0, F1, G1, t⟩
  by_cases e8 : kind = 8
  · subst e8
    refine (same_k8 (S1 := S.lock) (q1 := !S.locked) h g off (fun W F' G' t => (lock_all t.h).mono fun e W' ⟨a, b⟩ => ⟨a, _, t.hturn b⟩) (fun W F' G' t => (rlock_any t.g).mono fun e W' ⟨a, b⟩ => ⟨a, _, t.gturn b⟩)).mono fun e W' ⟨a, F1, G1, t⟩ => ⟨a, 0, F1, G1, t⟩
  by_cases e9 : kind = 9
  · subst e9
    refine (same_k9 (S1 := S.unlock) (q1 := S.locked) h g off (fun W F' G' t => (unlock_all t.h (by omega)).mono fun e W' ⟨a, b⟩ => ⟨a, _, t.hturn b⟩) (fun W F' G' t => (runlock_any t.g hf).mono fun e W' ⟨a, b⟩ => ⟨a, _, t.gturn b⟩)).mono fun e W' ⟨a, F1, G1, t⟩ => ⟨a, 0, F1, G1, t⟩
  refine (same_k0 h g off (by omega)).mono fun e W' ⟨a, F1, G1, t⟩ => ⟨a, 0, F1, G1, ?_⟩
  have : PHeap.step S ⟨kind, block, cell, old, new, text⟩ 0 = S := by
    unfold PHeap.step
    simp only [e1, e2, e3, e4, e5, e6, e7, e8, e9, if_false]
  rw [this]
  exact t
end Go.Proofs.Ytjoaifdjmdihoaa
