/-
  The law of heaps that keep (layer 17): what its loops know of the heap (the plain law). No condition.
-/
import Derived.Test.YtmlnhjfdhjachaaGreatSess
namespace Go.Proofs.YtmlnhjfdhjachaaGreat
set_option linter.unusedVariables false
open Go.ChangeShapes Go.WideShapes Go.ChangeAt Go.RowKit
open Go.ChangeMaps (setBlock)

theorem set_find (S : PHeap) (b c : Int) (i : Nat) (v : Int) : (S.set b i v).find c = (S.find c).map fun x => if x.key = b then { x with cells := x.cells.set i v } else x := by
  unfold PHeap.set PHeap.find
  rw [List.find?_map]
  congr 1
  congr 1
  funext x
  show ((if x.key = b then ({ x with cells := x.cells.set i v } : PBlk) else x).key == c) = (x.key == c)
  split <;> rfl
/-- Blocks 1, 2, .. with these sizes and texts. -/
structure Kept (S : PHeap) (ns : List Int) (ts : Nat → ByteArray) : Prop where
  last : S.last = (ns.length : Nat)
  faults : S.faults = 0
  locked : S.locked = false
  keys : S.blocks.map (·.key) = (List.range ns.length).map fun j => ((j : Nat) : Int) + 1
  each : ∀ x ∈ S.blocks, ∀ j : Nat, x.key = (j : Int) + 1 → ns[j]? = some (x.cells.length : Int) ∧ x.text = ts j
theorem Kept.start (ts : Nat → ByteArray) : Kept ⟨[], 0, false, 0⟩ [] ts := ⟨rfl, rfl, rfl, rfl, by simp⟩
theorem Kept.more {S : PHeap} {ns : List Int} {ts : Nat → ByteArray} (h : Kept S ns ts) (r n : Nat) (t : ByteArray) (ht : t = ts ns.length) :
    Kept { S with blocks := S.blocks ++ [⟨S.last + 1, r, List.replicate n 0, t⟩], last := S.last + 1 } (ns ++ [(n : Int)]) ts := by
  refine ⟨by simp [h.last], h.faults, h.locked, ?_, ?_⟩
  · simp [h.keys, h.last, List.range_succ]
  · intro x hx j hj
    simp only [List.mem_append, List.mem_singleton] at hx
    rcases hx with hx | rfl
    · obtain ⟨h1, h2⟩ := h.each x hx j hj
      exact ⟨by rw [List.getElem?_append_left (List.getElem?_eq_some_iff.mp h1).1]; exact h1, h2⟩
    · have : j = ns.length := by
        have h1 : S.last + 1 = (j : Int) + 1 := hj
        have := h.last
        omega
      subst this
      simp [ht]
theorem Kept.find {S : PHeap} {ns : List Int} {ts : Nat → ByteArray} (h : Kept S ns ts) {j : Nat} {n : Int} (hj : ns[j]? = some n) : ∃ x, S.find ((j : Int) + 1) = some x ∧ (x.cells.length : Int) = n ∧ x.text = ts j := by
  have hjl := (List.getElem?_eq_some_iff.mp hj).1
  cases hx : S.find ((j : Int) + 1) with
  | none =>
    unfold PHeap.find at hx
    rw [List.find?_eq_none] at hx
    have h1 : ((j : Int) + 1) ∈ S.blocks.map (·.key) := by
      rw [h.keys]
      exact List.mem_map.2 ⟨j, List.mem_range.2 hjl, rfl⟩
    obtain ⟨y, hy, hk⟩ := List.mem_map.1 h1
    exact absurd (by simp [hk]) (hx y hy)
  | some x =>
    obtain ⟨h1, h2⟩ := find_mem hx
    obtain ⟨h3, h4⟩ := h.each x h1 j h2
    rw [h3] at hj
    exact ⟨x, rfl, by injection hj, h4⟩
theorem Kept.set {S : PHeap} {ns : List Int} {ts : Nat → ByteArray} (h : Kept S ns ts) (b : Int) (i : Nat) (v : Int) : Kept (S.set b i v) ns ts := by
  refine ⟨h.last, h.faults, h.locked, ?_, ?_⟩
  · rw [← h.keys]
    unfold PHeap.set
    simp only [List.map_map]
    apply List.map_congr_left
    intro x _
    show (if x.key = b then ({ x with cells := x.cells.set i v } : PBlk) else x).key = x.key
    split <;> rfl
  · intro x hx j hj
    unfold PHeap.set at hx
    obtain ⟨y, hy, rfl⟩ := List.mem_map.1 hx
    by_cases hk : y.key = b
    · rw [if_pos hk] at hj ⊢
      have := h.each y hy j hj
      simpa using this
    · rw [if_neg hk] at hj ⊢
      exact h.each y hy j hj
theorem Kept.stored {S : PHeap} {ns : List Int} {ts : Nat → ByteArray} (h : Kept S ns ts) {j n ce : Nat} (hj : ns[j]? = some (n : Int)) (hce : ce < n) (v : Int) :
    ∃ x, (S.set ((j : Int) + 1) ce v).find ((j : Int) + 1) = some x ∧ x.nth ce = v ∧ x.cells.length = n ∧ x.text = ts j := by
  obtain ⟨x, hx, hl, ht⟩ := h.find hj
  have hl' : x.cells.length = n := by omega
  refine ⟨{ x with cells := x.cells.set ce v }, ?_, ?_, ?_, ht⟩
  · rw [set_find, hx]
    simp [(find_mem hx).2]
  · show (x.cells.set ce v).getD ce 0 = v
    rw [List.getD_eq_getElem?_getD, List.getElem?_set_self (by omega)]
    rfl
  · simp [hl']
theorem find_other (S : PHeap) (b c : Int) (i : Nat) (v : Int) (hne : b ≠ c) : (S.set b i v).find c = S.find c := by
  rw [set_find]
  cases hx : S.find c with
  | none => rfl
  | some x =>
    have : ¬ x.key = b := fun e => hne (e.symm.trans (find_mem hx).2)
    simp [this]
/-- Some are dropped. -/
structure Fewer (S : PHeap) (k m : Nat) : Prop where
  last : S.last = (m : Nat)
  faults : S.faults = (k : Nat)
  locked : S.locked = false
  keys : S.blocks.map (·.key) = (List.range (m - k)).map fun j => ((j : Nat) : Int) + ((k : Nat) + 1)
theorem Kept.fewer {S : PHeap} {ns : List Int} {ts : Nat → ByteArray} (h : Kept S ns ts) : Fewer S 0 ns.length := ⟨h.last, by rw [h.faults]; rfl, h.locked, by rw [h.keys]; simp⟩
theorem Fewer.find {S : PHeap} {k m : Nat} (h : Fewer S k m) (hk : k < m) : ∃ x, S.find ((k : Int) + 1) = some x := by
  cases hx : S.find ((k : Int) + 1) with
  | some x => exact ⟨x, rfl⟩
  | none =>
    unfold PHeap.find at hx
    rw [List.find?_eq_none] at hx
    have h1 : ((k : Int) + 1) ∈ S.blocks.map (·.key) := by
      rw [h.keys]
      exact List.mem_map.2 ⟨0, List.mem_range.2 (by omega), by simp⟩
    obtain ⟨y, hy, hk⟩ := List.mem_map.1 h1
    exact absurd (by simp [hk]) (hx y hy)
theorem Fewer.drop {S : PHeap} {k m : Nat} (h : Fewer S k m) (hk : k < m) :
    PHeap.find { S with blocks := S.blocks.filter fun y => y.key != ((k : Int) + 1) } ((k : Int) + 1) = none ∧
    PHeap.miss { S with blocks := S.blocks.filter fun y => y.key != ((k : Int) + 1) } ((k : Int) + 1) = 17 ∧
    Fewer (PHeap.fault { S with blocks := S.blocks.filter fun y => y.key != ((k : Int) + 1) }) (k + 1) m := by
  refine ⟨?_, ?_, h.last, ?_, h.locked, ?_⟩
  · unfold PHeap.find
    rw [List.find?_eq_none]
    intro x hx
    have := (List.mem_filter.1 hx).2
    simpa using this
  · unfold PHeap.miss
    rw [if_neg]
    have := h.last
    show ¬ ((k : Int) + 1 = 0 ∨ S.last < (k : Int) + 1)
    omega
  · show S.faults + 1 = _
    rw [h.faults]
    rfl
  · show (S.blocks.filter fun y => y.key != ((k : Int) + 1)).map (·.key) = _
    have e : (S.blocks.filter fun y => y.key != ((k : Int) + 1)).map (·.key) = (S.blocks.map (·.key)).filter fun z => z != ((k : Int) + 1) := by
      rw [List.filter_map]
      rfl
    rw [e, h.keys]
    obtain ⟨d, hd⟩ : ∃ d, m - k = d + 1 := ⟨m - k - 1, by omega⟩
    rw [hd, show m - (k + 1) = d by omega, List.range_succ_eq_map]
    simp only [List.map_cons, List.map_map, List.filter_cons]
    rw [if_neg (by simp)]
    rw [List.filter_eq_self.2]
    · apply List.map_congr_left
      intro j _
      simp only [Function.comp]
      omega
    · intro z hz
      obtain ⟨j, _, rfl⟩ := List.mem_map.1 hz
      simp only [Function.comp, bne_iff_ne]
      omega
theorem Fewer.none {S : PHeap} {m : Nat} (h : Fewer S m m) : S.blocks = [] := by
  have := h.keys
  simpa using this
end Go.Proofs.YtmlnhjfdhjachaaGreat
