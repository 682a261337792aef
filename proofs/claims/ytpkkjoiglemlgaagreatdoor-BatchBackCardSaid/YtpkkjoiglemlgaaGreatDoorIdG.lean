/-
  Names (layer 12): the order of names as slices.SortFunc asks for it; a row of names that the call owns, sorted. No condition.
-/
import Derived.Test.YtpkkjoiglemlgaaGreatDoorIdA
import Derived.Test.YtpkkjoiglemlgaaGreatDoorSorts
namespace Go.Proofs.YtpkkjoiglemlgaaGreatDoor
set_option linter.unusedVariables false
open Go.ChangeShapes Go.WideShapes Go.ChangeAt Go.RowKit Go.Extern.Stop Go.Stop Go.Extern
open Go.Sort Go.Shelf Go.Lib

/-- Draws and new blocks alone. -/
def Grew (w w' : World) : Prop := ∃ q os, w' = grow (w.drewN q) os
theorem Grew.refl (w : World) : Grew w w := ⟨0, #[], by rw [grow_empty]; rfl⟩
theorem Grew.alloc {w w' : World} (h : Grew w w') (o : Obj) : Grew w (w'.alloc o) := by
  obtain ⟨q, os, rfl⟩ := h
  exact ⟨q, os ++ #[o], by rw [alloc_eq_grow, grow_grow]⟩
theorem Grew.drew {w w' : World} (h : Grew w w') : Grew w w'.drew := by
  obtain ⟨q, os, rfl⟩ := h
  exact ⟨q + 1, os, rfl⟩
theorem Grew.drewN {w w' : World} (h : Grew w w') (n : Nat) : Grew w (w'.drewN n) := by
  obtain ⟨q, os, rfl⟩ := h
  refine ⟨q + n, os, ?_⟩
  show ({ (w.drewN q) with heap := (w.drewN q).heap ++ os, drawn := w.drawn + q + n } : World) = { (w.drewN (q + n)) with heap := (w.drewN (q + n)).heap ++ os }
  simp only [World.drewN, Nat.add_assoc]
theorem Grew.trans {a b c : World} (h : Grew a b) (k : Grew b c) : Grew a c := by
  obtain ⟨q, os, rfl⟩ := k
  obtain ⟨q2, os2, e⟩ := h.drewN q
  exact ⟨q2, os2 ++ os, by rw [← grow_grow, e]⟩
set_option maxHeartbeats 1000000 in
set_option maxRecDepth 100000 in
theorem before_grew (x y x2 y2 : Int) (w : World) : Calls Tryz.prog 13 #[.agg #[.int .i64 x, .int .i64 y], .agg #[.int .i64 x2, .int .i64 y2]] w fun e w' => e = .returned (.bool (idLt (x, y) (x2, y2))) ∧ Grew w w' := by
  have h : x < x2 ∨ x = x2 ∨ x2 < x := by omega
  rcases h with h | rfl | h
  · have e : idLt (x, y) (x2, y2) = true := decide_eq_true (.inl h)
    rw [e]
    have d1 : decide (x < x2) = true := decide_eq_true h
    go_enter Tryz.func13, Tryz.ntmps13
    go_wp2_with fail
    go_ret
    refine ⟨rfl, ?_⟩
    repeat (first | exact Grew.refl _ | apply Grew.alloc | apply Grew.drew | apply Grew.drewN)
  · have e : idLt (x, y) (x, y2) = decide (y < y2) := by
      unfold idLt
      by_cases hy : y < y2 <;> simp [hy]
    rw [e]
    go_enter Tryz.func13, Tryz.ntmps13
    go_wp2_with fail
    go_ret
    refine ⟨rfl, ?_⟩
    repeat (first | exact Grew.refl _ | apply Grew.alloc | apply Grew.drew | apply Grew.drewN)
  · have e : idLt (x, y) (x2, y2) = false := decide_eq_false (by simp only; omega)
    rw [e]
    have d1 : decide (x < x2) = false := decide_eq_false (by omega)
    have d2 : (x == x2) = false := beq_eq_false_iff_ne.2 (by omega)
    go_enter Tryz.func13, Tryz.ntmps13
    go_wp2_with fail
    go_ret
    refine ⟨rfl, ?_⟩
    repeat (first | exact Grew.refl _ | apply Grew.alloc | apply Grew.drew | apply Grew.drewN)
/-- The comparator's answer. -/
def idCmp (p q : Int × Int) : Int := if idLt p q then -1 else 1
theorem idCmp_lt (p q : Int × Int) : ltOf idCmp p q = idLt p q := by
  unfold ltOf idCmp
  by_cases h : idLt p q = true
  · simp [h]
  · have : idLt p q = false := by simpa using h
    simp [this]
theorem idLt_iff (p q : Int × Int) : idLt p q = true ↔ p.1 < q.1 ∨ (p.1 = q.1 ∧ p.2 < q.2) := by unfold idLt; simp
theorem idLt_not (p q : Int × Int) : idLt p q = false ↔ ¬ (p.1 < q.1 ∨ (p.1 = q.1 ∧ p.2 < q.2)) := by unfold idLt; simp
theorem idSwo : SWO (ltOf idCmp) where
  irrefl x := by rw [idCmp_lt, idLt_not]; omega
  trans x y z h1 h2 := by rw [idCmp_lt, idLt_iff] at *; omega
  ntrans x y z h1 h2 := by rw [idCmp_lt, idLt_not] at *; omega
theorem idTotal (p q : Int × Int) (h1 : ltOf idCmp p q = false) (h2 : ltOf idCmp q p = false) : p = q := by
  rw [idCmp_lt, idLt_not] at h1 h2
  exact Prod.ext (by omega) (by omega)
set_option maxHeartbeats 1000000 in
set_option maxRecDepth 100000 in
theorem cmp_grew (p q : Int × Int) (w : World) : Calls Tryz.prog 65 #[.agg #[.int .i64 p.1, .int .i64 p.2], .agg #[.int .i64 q.1, .int .i64 q.2]] w fun e w' => e = .returned (.int .i64 (idCmp p q)) ∧ Grew w w' := by
  obtain ⟨x, y⟩ := p
  obtain ⟨x2, y2⟩ := q
  have hc := before_grew x y x2 y2
  unfold idCmp
  generalize idLt (x, y) (x2, y2) = b at *
  replace hc := Lib.hid hc
  go_enter Tryz.func65, Tryz.ntmps65
  go_wp2_with fail
  refine (hc.out _).mono ?_; rintro e w5 ⟨rfl, hg⟩
  have hg5 : Grew w w5 := Grew.trans (by repeat (first | exact Grew.refl _ | apply Grew.alloc | apply Grew.drew | apply Grew.drewN)) hg
  replace hg5 := Lib.hid hg5
  clear hg
  cases b
  · go_wp2_with fail
    go_ret
    exact ⟨rfl, hg5.out⟩
  · go_wp2_with fail
    go_ret
    exact ⟨rfl, hg5.out⟩
theorem cmp_lays (blk off size : Nat) (w : World) : CmpLays Tryz.prog 65 #[] idCells 2 idCmp blk off size w :=
  fun _ _ _ _ p q => (cmp_grew p q _).mono fun _ _ ⟨he, k, os, hw⟩ => ⟨he, k, os, hw⟩
theorem flat_ids (l : List (Int × Int)) : flatK idCells 2 l.toArray = (l.flatMap idCells).toArray := by
  refine ext_get! (by rw [size_flatK, List.size_toArray, List.size_toArray, ids_len]) fun t ht => ?_
  rw [size_flatK] at ht
  rw [get_flatK _ _ _ _ ht]
  have key : ∀ (l : List (Int × Int)) (t : Nat), t < l.length * 2 → (idCells (l.toArray[t / 2]!))[t % 2]! = (l.flatMap idCells)[t]! := by
    intro l
    induction l with
    | nil => intro t h; simp at h
    | cons p l ih =>
      intro t h
      match t with
      | 0 => rfl
      | 1 => rfl
      | t + 2 =>
        have h2 : t < l.length * 2 := by simp at h; omega
        have := ih t h2
        rw [show (t + 2) / 2 = t / 2 + 1 by omega, show (t + 2) % 2 = t % 2 by omega]
        simpa [idCells] using this
  have := key l t (by simpa using ht)
  simpa using this
theorem putCells_takeI (d : Array Value) (c : Array Value) (h : d.size ≤ c.size) : (putCells id 0 d c).toList.take d.size = d.toList := by
  apply List.ext_getElem?
  intro k
  rw [List.getElem?_take]
  by_cases hk : k < d.size
  · rw [if_pos hk, Array.getElem?_toList, Array.getElem?_toList, Array.getElem?_eq_getElem hk]
    unfold putCells
    rw [Array.getElem?_mapIdx, Array.getElem?_eq_getElem (by omega)]
    simp [hk, getElem!_pos]
  · rw [if_neg hk, Array.getElem?_toList, Array.getElem?_eq_none (by omega)]
theorem mapBlock_atI {w : World} {g : Nat} {c : Array Value} {e : TypeId} {fr : Nat × Nat} (f : Array Value → Array Value) (h : w.heap[g]? = some (.cells c e fr)) : (mapBlock w g f).heap[g]? = some (.cells (f c) e fr) := by
  unfold mapBlock
  simp only [Array.getElem?_modify, if_pos, h]
  rfl
theorem mapBlock_farI {w : World} {g k : Nat} (f : Array Value → Array Value) (h : k ≠ g) : (mapBlock w g f).heap[k]? = w.heap[k]? := by
  unfold mapBlock
  simp only [Array.getElem?_modify]
  rw [if_neg (fun e => h e.symm)]
def sortIds (l : List (Int × Int)) : List (Int × Int) := l.mergeSort fun x y => !(idLt y x)
theorem sortIds_len (l : List (Int × Int)) : (sortIds l).length = l.length := by simp [sortIds]
set_option maxHeartbeats 1000000 in
set_option maxRecDepth 100000 in
theorem sortFunc_any {w : World} {base n : Nat} {v : Value} {l : List (Int × Int)} (hl : l.length = n) (hn : n ≤ 1000000) (h : w.ownsRow base 23 2 v n (l.flatMap idCells)) :
    Calls Tryz.prog 64 #[v, .func (.func 65) #[] #[]] w fun e w' => e = .returned (.tuple #[]) ∧ w'.ownsRow base 23 2 v n ((sortIds l).flatMap idCells) ∧ w.grownBy w' v.ownBlock := by
  rcases h.2 with ⟨rfl, h0⟩ | ⟨g, cap, cur, rfl, h1, h2, h3, h4, h5, h6⟩
  · subst h0
    have hz : l = [] := List.eq_nil_of_length_eq_zero hl
    subst hz
    refine (AnyF.slices_SortFunc_none Tryz.sortId none 0 _ w).mono ?_
    rintro e w' ⟨rfl, rfl⟩
    exact ⟨rfl, by simpa [sortIds] using h, World.grownBy.refl _ _⟩
  · subst hl
    have hlt : g < w.heap.size := (Array.getElem?_eq_some_iff.1 h2).1
    have hH : HoldsK idCells 2 w g 0 l.toArray := fun j hj => by
      have hj' : j < l.length * 2 := by simpa using hj
      have hB : Blk w g 23 cur := h2
      refine ⟨?_, by rw [Nat.zero_add]; exact hB.frozen j⟩
      rw [Nat.zero_add, hB.cell j, flat_ids]
      have e1 : cur[j]? = (cur.toList.take (l.length * 2))[j]? := by rw [List.getElem?_take, if_pos (by omega), Array.getElem?_toList]
      have hj2 : j < (l.flatMap idCells).length := by rw [ids_len]; exact hj'
      rw [e1, h6, List.getElem?_eq_getElem hj2, getElem!_pos _ j (by simpa using hj2)]
      rfl
    have eg : ∀ args w, (callFunc 65 args).run Tryz.prog w = .ok (.enter 65 args) w := enters_of Tryz.func65 (by kernel_rfl) rfl
    have hS := AnyQ.slices_SortFunc_total Tryz.sortId 2 (fun w => by kernel_rfl) (fun w => by kernel_rfl) idCells (fun _ => rfl) (fun x v hv => by simp [idCells] at hv; rcases hv with rfl | rfl <;> rfl) idCmp idSwo 65 #[] g 0 cap l.toArray w eg (cmp_lays g 0 _ w) hH hlt (by simp; omega) idTotal
    have hf : (fun x y => !(ltOf idCmp) y x) = fun x y => !(idLt y x) := by funext x y; rw [idCmp_lt]
    rw [hf] at hS
    refine hS.mono ?_
    rintro e w' ⟨rfl, m, os, rfl⟩
    have hd : (l.toArray.toList.mergeSort fun x y => !(idLt y x)).toArray = (sortIds l).toArray := rfl
    rw [hd]
    have hsl := sortIds_len l
    have hsz : ((sortIds l).flatMap idCells).toArray.size = l.length * 2 := by rw [List.size_toArray, ids_len, hsl]
    have hw : sortWorldK idCells 2 w g 0 m (sortIds l).toArray os = grow (putRow id (Sort.ahead w m) g 0 ((sortIds l).flatMap idCells).toArray) os := by unfold sortWorldK putRowK; rw [flat_ids]
    rw [hw]
    have hsz2 : (putRow id (Sort.ahead w m) g 0 ((sortIds l).flatMap idCells).toArray).heap.size = w.heap.size := by
      unfold putRow mapBlock
      simp [Sort.ahead]
    refine ⟨rfl, ⟨by rw [ids_len, hsl], .inr ⟨g, cap, putCells id 0 ((sortIds l).flatMap idCells).toArray cur, rfl, h1, ?_, h3, h4, by unfold putCells; simpa using h5, ?_⟩⟩, ?_⟩
    · rw [heap_grow_old _ _ (by rw [hsz2]; exact hlt)]
      exact mapBlock_atI _ h2
    · have e := putCells_takeI ((sortIds l).flatMap idCells).toArray cur (by rw [hsz]; omega)
      rw [hsz] at e
      exact e
    · refine ⟨rfl, rfl, rfl, by rw [size_grow, hsz2]; omega, fun k hk hne => ?_⟩
      rw [heap_grow_old _ _ (by rw [hsz2]; exact hk)]
      exact mapBlock_farI _ (fun e => hne (by rw [e]; rfl))
end Go.Proofs.YtpkkjoiglemlgaaGreatDoor
