import Derived.Test.YtmlnhjfdhjachaaGreatQva29
/-
  slices.Sort on a row of uint64 that the call owns. No condition.
-/
namespace Go.Proofs.YtmlnhjfdhjachaaGreat
set_option linter.unusedVariables false
open Go.ChangeShapes Go.WideShapes Go.ChangeAt
open Go.RowKit Go.Sort

theorem putCells_take {enc : Int → Value} (d : Array Int) (c : Array Value) (h : d.size ≤ c.size) : (putCells enc 0 d c).toList.take d.size = d.toList.map enc := by
  apply List.ext_getElem?
  intro k
  rw [List.getElem?_take]
  by_cases hk : k < d.size
  · rw [if_pos hk, List.getElem?_map, Array.getElem?_toList, Array.getElem?_toList, Array.getElem?_eq_getElem hk]
    unfold putCells
    rw [Array.getElem?_mapIdx, Array.getElem?_eq_getElem (by omega)]
    simp [hk, getElem!_pos]
  · rw [if_neg hk, List.getElem?_map, Array.getElem?_toList, Array.getElem?_eq_none (by omega)]
    rfl
theorem mapBlock_at {w : World} {g : Nat} {c : Array Value} {e : TypeId} {fr : Nat × Nat} (f : Array Value → Array Value) (h : w.heap[g]? = some (.cells c e fr)) : (mapBlock w g f).heap[g]? = some (.cells (f c) e fr) := by
  unfold mapBlock
  simp only [Array.getElem?_modify, if_pos, h]
  rfl
theorem mapBlock_far {w : World} {g k : Nat} (f : Array Value → Array Value) (h : k ≠ g) : (mapBlock w g f).heap[k]? = w.heap[k]? := by
  unfold mapBlock
  simp only [Array.getElem?_modify]
  rw [if_neg (fun e => h e.symm)]
theorem sort_any {w : World} {base n : Nat} {v : Value} {zs : List Int} (hn : n ≤ 1000000) (h : w.ownsRow base 22 1 v n (zs.map (Value.int .u64))) :
    Calls Tryz.prog 65 #[v] w fun e w' => e = .returned (.tuple #[]) ∧ w'.ownsRow base 22 1 v n ((zs.mergeSort fun x y => decide (x ≤ y)).map (Value.int .u64)) ∧ w.grownBy w' v.ownBlock := by
  have hl : zs.length = n := by have := h.1; simpa using this
  rcases h.2 with ⟨rfl, h0⟩ | ⟨g, cap, cur, rfl, h1, h2, h3, h4, h5, h6⟩
  · subst h0
    have hz : zs = [] := List.eq_nil_of_length_eq_zero hl
    subst hz
    refine (U_Sort_int_nil none 0 w).mono ?_
    rintro e w' ⟨rfl, rfl⟩
    exact ⟨rfl, by simpa using h, World.grownBy.refl _ _⟩
  · have hH : Holds (Value.int .u64) w g 0 zs.toArray := fun j hj => by
      have hj' : j < zs.length := by simpa using hj
      have hB : Blk w g 22 cur := h2
      refine ⟨?_, by rw [Nat.zero_add]; exact hB.frozen j⟩
      rw [Nat.zero_add, hB.cell j]
      have e1 : cur[j]? = (cur.toList.take (n * 1))[j]? := by rw [List.getElem?_take, if_pos (by omega), Array.getElem?_toList]
      rw [e1, h6, List.getElem?_map, List.getElem?_eq_getElem hj']
      simp [getElem!_pos, hj']
    subst hl
    refine (U_slices_Sort g 0 cap zs w hH (Array.getElem?_eq_some_iff.1 h2).1 (by omega)).mono ?_
    rintro e w' ⟨rfl, m, os, rfl⟩
    have hlt : g < w.heap.size := (Array.getElem?_eq_some_iff.1 h2).1
    have hsz : (zs.mergeSort fun x y => decide (x ≤ y)).toArray.size = zs.length := by simp
    have hsz2 : (putRow (Value.int .u64) (Sort.ahead w m) g 0 (zs.mergeSort fun x y => decide (x ≤ y)).toArray).heap.size = w.heap.size := by
      unfold putRow mapBlock
      simp [Sort.ahead]
    refine ⟨rfl, ⟨by simp, .inr ⟨g, cap, putCells (Value.int .u64) 0 (zs.mergeSort fun x y => decide (x ≤ y)).toArray cur, rfl, h1, ?_, h3, h4, by unfold putCells; simpa using h5, ?_⟩⟩, ?_⟩
    · rw [heap_grow_old _ _ (by rw [hsz2]; exact hlt)]
      exact mapBlock_at _ h2
    · have e := putCells_take (enc := Value.int .u64) (zs.mergeSort fun x y => decide (x ≤ y)).toArray cur (by rw [hsz]; omega)
      rw [hsz] at e
      rw [Nat.mul_one, e]
    · refine ⟨rfl, rfl, rfl, by rw [size_grow, hsz2]; omega, fun k hk hne => ?_⟩
      rw [heap_grow_old _ _ (by rw [hsz2]; exact hk)]
      exact mapBlock_far _ (fun e => hne (by rw [e]; rfl))
end Go.Proofs.YtmlnhjfdhjachaaGreat
