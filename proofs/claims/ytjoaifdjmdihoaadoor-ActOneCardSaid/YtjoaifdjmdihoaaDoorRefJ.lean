/-
  The document's heap (layer 17): a block that is there, told by its cells; what a store and a drop do. No condition.
-/
import Derived.Test.YtjoaifdjmdihoaaDoorRefI
namespace Go.Proofs.YtjoaifdjmdihoaaDoor
set_option linter.unusedVariables false
open Go.ChangeShapes Go.WideShapes Go.ChangeAt Go.RowKit
open Go.ChangeMaps (setBlock)

theorem filter_find (S : PHeap) (b c : Int) (hne : c ≠ b) : PHeap.find { S with blocks := S.blocks.filter fun y => y.key != b } c = S.find c := by
  unfold PHeap.find
  simp only
  induction S.blocks with
  | nil => rfl
  | cons a l ih =>
    rw [List.filter_cons]
    by_cases h : a.key = b
    · have h1 : (a.key != b) = false := by simp [h]
      have h2 : (a.key == c) = false := by rw [h, beq_eq_false_iff_ne]; exact fun e => hne e.symm
      rw [h1, List.find?_cons, h2]
      simpa using ih
    · have h1 : (a.key != b) = true := by simpa using h
      rw [h1]
      simp only [if_true, List.find?_cons]
      rw [ih]
theorem filter_gone (S : PHeap) (b : Int) : PHeap.find { S with blocks := S.blocks.filter fun y => y.key != b } b = none := by
  unfold PHeap.find
  rw [List.find?_eq_none]
  intro x hx
  have := (List.mem_filter.1 hx).2
  simpa using this
theorem nodup_g {R : List RBlk} (h : (R.map (·.g)).Nodup) {i k : Nat} {r r' : RBlk} (hi : R[i]? = some r) (hk : R[k]? = some r') (hn : i ≠ k) : r.g ≠ r'.g := by
  intro e
  have h1 : (R.map (·.g))[i]? = some r.g := by rw [List.getElem?_map, hi]; rfl
  have h2 : (R.map (·.g))[k]? = some r'.g := by rw [List.getElem?_map, hk]; rfl
  have hl : i < (R.map (·.g)).length := (List.getElem?_eq_some_iff.1 h1).1
  exact hn ((List.getElem?_inj hl h).1 (by rw [h1, h2, e]))
theorem set_g {R : List RBlk} {i : Nat} {r r1 : RBlk} (hi : R[i]? = some r) (he : r1.g = r.g) : ((R.set i r1).map (·.g)) = R.map (·.g) := by
  rw [List.map_set, he]
  apply List.ext_getElem?
  intro k
  rw [List.getElem?_set]
  split
  · rename_i hk
    subst hk
    rw [List.getElem?_map, hi]
    split <;> simp_all
  · rfl
theorem set_at {R : List RBlk} {i k : Nat} {r1 r' : RBlk} (h : (R.set i r1)[k]? = some r') : (k = i ∧ r' = r1) ∨ (k ≠ i ∧ R[k]? = some r') := by
  rw [List.getElem?_set] at h
  split at h
  · rename_i hk
    split at h
    · injection h with h
      exact .inl ⟨hk.symm, h.symm⟩
    · cases h
  · rename_i hk
    exact .inr ⟨fun e => hk e.symm, h⟩
/-- A block that is there. -/
structure Spot (w : World) (xb : Nat) (S : PHeap) (F : Nat → Prop) (b : Int) (x : PBlk) (gv n cap i g rcap : Nat) : Prop where
  c0 : w.cell? ⟨xb, 0, none⟩ = some (.slice (some ⟨gv, 0, none⟩) n cap)
  wb : IntKind.i64.wrap b = b
  wb1 : IntKind.i64.wrap (b - 1) = (i : Int)
  i1 : (0 : Int) ≤ (i : Int)
  i2 : (i : Int) < (n : Int)
  r0 : w.cell? ⟨gv, i * 3, none⟩ = some (.slice (some ⟨g, 0, none⟩) x.cells.length rcap)
  r1 : w.cell? ⟨gv, i * 3 + 1, none⟩ = some (.string x.text)
  r2 : w.cell? ⟨gv, i * 3 + 2, none⟩ = some (.bool false)
  f2 : w.frozen? ⟨gv, i * 3 + 2, none⟩ = false
  cells : ∀ j, j < x.cells.length → w.cell? ⟨g, j, none⟩ = some (.int .u64 (x.nth j))
  fr : ∀ j, w.frozen? ⟨g, j, none⟩ = false
  store : ∀ (j : Nat) v, RTurned F xb (S.set b j v) w (w.setCell ⟨g, j, none⟩ (.int .u64 v))
  drop : RTurned F xb (S.drop b) w (w.setCell ⟨gv, i * 3 + 2, none⟩ (.bool true))
theorem RefIn.spot {w : World} {xb : Nat} {S : PHeap} {F : Nat → Prop} (h : RefIn w xb S F) {b : Int} (hb0 : 0 ≤ b) {x : PBlk} (hx : S.find b = some x) (hl : S.last ≤ 1000000) : ∃ gv n cap i g rcap, Spot w xb S F b x gv n cap i g rcap := by
  obtain ⟨A, cap, R, hX, hR, hlen, ht⟩ := h.ex
  rcases h.at_ hlen ht b hb0 with ⟨h1, h2, h3⟩ | ⟨i, r, hb, hr, hg, h2, h3⟩ | ⟨i, r, x', hb, hr, hg, h2, h3, h4⟩
  · rw [hx] at h2; cases h2
  · rw [hx] at h2; cases h2
  rw [hx] at h2
  injection h2 with h2
  subst h2
  have hi : i < R.length := (List.getElem?_eq_some_iff.1 hr).1
  rcases hR.row with ⟨_, rfl, _⟩ | ⟨gv, rfl, hgF, hS⟩
  · simp at hi
  obtain ⟨hrF, hrS⟩ := hR.rows r (List.mem_of_getElem? hr)
  have hgr : gv ≠ r.g := hS.ne hrS (by decide)
  have hxg : xb ≠ r.g := by
    obtain ⟨cur, h5, _⟩ := hrS.ex
    exact hX.ne_ h5 (by decide)
  have hxv : xb ≠ gv := by
    obtain ⟨cur, h5, _⟩ := hS.ex
    exact hX.ne_ h5 (by decide)
  have hk1 : x.key = b := (find_mem hx).2
  refine ⟨gv, R.length, cap, i, r.g, r.cap, hX.cell 0, IntWalk.i64_in _ (by omega), by rw [IntWalk.i64_in _ (by omega)]; omega, by omega, by omega, ?_, ?_, ?_, hS.frozen _, fun j hj => ?_, fun j => hrS.frozen j, fun j v => ?_, ?_⟩
  · have := hS.cell (i := i * 3 + 0) (by omega)
    rw [rCs_at hr 0 (by decide)] at this
    rw [h3]
    exact this
  · rw [hS.cell (by omega), rCs_at hr 1 (by decide), h4]
    rfl
  · rw [hS.cell (by omega), rCs_at hr 2 (by decide), ← hg]
    rfl
  · rw [hrS.cell (by rw [← h3]; omega), ← h3, List.getElem?_map, List.getElem?_eq_getElem hj]
    unfold PBlk.nth
    simp [hj]
  · have hc : Chg F w (w.setCell ⟨r.g, j, none⟩ (.int .u64 v)) := (Chg.refl F w).setCell (.inl hrF) _
    have hkk : ∀ k, k ≠ r.g → (w.setCell ⟨r.g, j, none⟩ (.int .u64 v)).heap[k]? = w.heap[k]? := fun k hk => Below.heap_setCell w _ _ k hk
    refine ⟨⟨h.own.nw hc.size, .inl h.hF, ⟨_, cap, R.set i { r with cells := r.cells.set j v }, ?_, ⟨.inr ⟨gv, rfl, .inl hgF, ?_⟩, fun r' hr' => ?_, by rw [set_g (r1 := { r with cells := r.cells.set j v }) hr rfl]; exact hR.apart⟩, by rw [List.length_set]; exact hlen, fun k r' hk => ?_⟩, fun y hy => ?_, h.faults0⟩, hc⟩
    · rw [List.length_set]
      exact hX.keep (hkk xb hxg)
    · rw [List.length_set, rCs_cells hr _ (by simp)]
      exact hS.keep (hkk gv hgr)
    · obtain ⟨k, hk⟩ := List.getElem?_of_mem hr'
      rcases set_at hk with ⟨rfl, rfl⟩ | ⟨hne, hk⟩
      · refine ⟨.inl hrF, ?_⟩
        have := hrS.set j (.int .u64 v)
        show Slab _ r.g 32 1 (r.cells.set j v).length r.cap ((r.cells.set j v).map (Value.int .u64))
        rw [List.length_set, List.map_set]
        exact this
      · have hm := List.mem_of_getElem? hk
        exact ⟨.inl (hR.rows r' hm).1, (hR.rows r' hm).2.keep (hkk _ (fun e => nodup_g hR.apart hk hr hne e))⟩
    · rcases set_at hk with ⟨rfl, rfl⟩ | ⟨hne, hk⟩
      · unfold RBlk.Tells
        rw [if_neg (by show ¬ r.gone = true; rw [hg]; simp), set_find, ← hb, hx]
        exact ⟨_, rfl, by simp [hk1, h3], by simp [hk1, h4]⟩
      · rw [find_other _ _ _ _ _ (by omega)]
        exact ht k r' hk
    · obtain ⟨z, hz, rfl⟩ := List.mem_map.1 hy
      have := h.span z hz
      show 1 ≤ (if z.key = b then ({ z with cells := z.cells.set j v } : PBlk) else z).key ∧ (if z.key = b then ({ z with cells := z.cells.set j v } : PBlk) else z).key ≤ S.last
      split <;> exact this
  · have hc : Chg F w (w.setCell ⟨gv, i * 3 + 2, none⟩ (.bool true)) := (Chg.refl F w).setCell (.inl hgF) _
    have hkk : ∀ k, k ≠ gv → (w.setCell ⟨gv, i * 3 + 2, none⟩ (.bool true)).heap[k]? = w.heap[k]? := fun k hk => Below.heap_setCell w _ _ k hk
    have hd : S.drop b = { S with blocks := S.blocks.filter fun y => y.key != b } := by unfold PHeap.drop; rw [hx]
    rw [hd]
    refine ⟨⟨h.own.nw hc.size, .inl h.hF, ⟨_, cap, R.set i { r with gone := true }, ?_, ⟨.inr ⟨gv, rfl, .inl hgF, ?_⟩, fun r' hr' => ?_, by rw [set_g (r1 := { r with gone := true }) hr rfl]; exact hR.apart⟩, by rw [List.length_set]; exact hlen, fun k r' hk => ?_⟩, fun y hy => h.span y (List.mem_filter.1 hy).1, h.faults0⟩, hc⟩
    · rw [List.length_set]
      exact hX.keep (hkk xb hxv)
    · rw [List.length_set, ← rCs_gone hr]
      exact hS.set _ _
    · obtain ⟨k, hk⟩ := List.getElem?_of_mem hr'
      rcases set_at hk with ⟨rfl, rfl⟩ | ⟨hne, hk⟩
      · exact ⟨.inl hrF, hrS.keep (hkk _ hgr.symm)⟩
      · have hm := List.mem_of_getElem? hk
        exact ⟨.inl (hR.rows r' hm).1, (hR.rows r' hm).2.keep (hkk _ (((hR.rows r' hm).2.ne hS (by decide))))⟩
    · rcases set_at hk with ⟨rfl, rfl⟩ | ⟨hne, hk⟩
      · unfold RBlk.Tells
        rw [if_pos rfl, ← hb]
        exact filter_gone S b
      · rw [filter_find _ _ _ (by omega)]
        exact ht k r' hk
end Go.Proofs.YtjoaifdjmdihoaaDoor
