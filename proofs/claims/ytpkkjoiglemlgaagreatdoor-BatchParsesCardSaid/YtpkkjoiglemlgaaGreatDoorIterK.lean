/-
  A range over a map of names: whichever order the entries come in. No condition. (Printed by tools/iterk.py.)
-/
import Derived.Test.YtpkkjoiglemlgaaGreatDoorMapK
import Derived.Test.YtpkkjoiglemlgaaGreatDoorFr
import Derived.Maps.RangeWalk
namespace Go.Proofs.YtpkkjoiglemlgaaGreatDoor
set_option linter.unusedVariables false
open Go.ChangeShapes Go.WideShapes Go.ChangeAt Go.RowKit
open Go.ChangeMaps (setBlock)

def keyK : Value → Int × Int
  | .agg cs => match cs.toList with
    | [.int _ a, .int _ b] => (a, b)
    | _ => (0, 0)
  | _ => (0, 0)
theorem keyK_idV (p : Int × Int) : keyK (idV p) = p := rfl
def entK (e : MapEntry) : (Int × Int) × Value := (keyK e.key, e.val)
theorem ents_ofK {es : List MapEntry} {l : List ((Int × Int) × Value)} (h : es.map (fun e => (e.key, e.val)) = kvK l) : l = es.map entK ∧ ∀ e ∈ es, e.key = idV (keyK e.key) := by
  induction es generalizing l with
  | nil =>
    cases l with
    | nil => exact ⟨rfl, fun e he => by cases he⟩
    | cons p l => simp [kvK] at h
  | cons e es ih =>
    cases l with
    | nil => simp [kvK] at h
    | cons p l =>
      simp only [kvK, List.map_cons, List.cons.injEq] at h
      obtain ⟨h1, h2⟩ := h
      obtain ⟨k1, k2⟩ := ih (l := l) h2
      have e1 : e.key = idV p.1 := congrArg (·.1) h1
      have e2 : e.val = p.2 := congrArg (·.2) h1
      refine ⟨?_, fun x hx => ?_⟩
      · rw [List.map_cons, ← k1]
        congr 1
        unfold entK
        rw [e1, e2, keyK_idV]
      · rcases List.mem_cons.1 hx with rfl | hx
        · rw [e1, keyK_idV]
        · exact k2 x hx
/-- A loop over a map that holds l: what is to come yet. -/
structure IterK (w : World) (m r : Nat) (l left : List ((Int × Int) × Value)) : Prop where
  ex : ∃ es clock seen, w.heap[m]? = some (.map es clock) ∧ kvs es = kvK l ∧ MapKept.Stamped es clock ∧ w.heap[r]? = some (.mapIter (some m) clock seen clock) ∧ left = (leftOf es seen).toList.map entK
theorem IterK.keep {w w' : World} {m r : Nat} {l left : List ((Int × Int) × Value)} (h : IterK w m r l left) (hm : w'.heap[m]? = w.heap[m]?) (hr : w'.heap[r]? = w.heap[r]?) : IterK w' m r l left := by
  obtain ⟨es, c, s, h1, h2, h3, h4, h5⟩ := h.ex
  exact ⟨es, c, s, hm.trans h1, h2, h3, hr.trans h4, h5⟩
theorem IterK.map {w : World} {m r : Nat} {l left : List ((Int × Int) × Value)} (h : IterK w m r l left) : MapKs w m l := by
  obtain ⟨es, c, s, h1, h2, h3, h4, h5⟩ := h.ex
  exact ⟨es, c, h1, h2, h3⟩
theorem IterK.lt {w : World} {m r : Nat} {l left : List ((Int × Int) × Value)} (h : IterK w m r l left) : r < w.heap.size ∧ m < w.heap.size ∧ r ≠ m := by
  obtain ⟨es, c, s, h1, h2, h3, h4, h5⟩ := h.ex
  refine ⟨(Array.getElem?_eq_some_iff.1 h4).1, (Array.getElem?_eq_some_iff.1 h1).1, fun e => ?_⟩
  rw [e, h1] at h4
  cases h4
theorem filter_outK {es : List MapEntry} (hn : (es.map (·.born)).Nodup) {e : MapEntry} (he : e ∈ es) : es.Perm (e :: es.filter fun x => x.born != e.born) := by
  induction es with
  | nil => cases he
  | cons x es ih =>
    rw [List.map_cons, List.nodup_cons] at hn
    by_cases hx : x.born = e.born
    · have hxe : x = e := by
        rcases List.mem_cons.1 he with h | h
        · exact h.symm
        · exact absurd (List.mem_map.2 ⟨e, h, hx.symm⟩) hn.1
      subst hxe
      have hf : (x :: es).filter (fun y => y.born != x.born) = es := by
        rw [List.filter_cons_of_neg (by simp)]
        exact List.filter_eq_self.2 fun y hy => by
          have : y.born ≠ x.born := fun h => hn.1 (List.mem_map.2 ⟨y, hy, h⟩)
          simpa using this
      rw [hf]
    · have hm : e ∈ es := by
        rcases List.mem_cons.1 he with h | h
        · exact absurd (by rw [h]) hx
        · exact h
      rw [List.filter_cons_of_pos (by simpa using hx)]
      exact ((ih hn.2 hm).cons x).trans (List.Perm.swap ..)
theorem left_pushK (es : Array MapEntry) (seen : Array Nat) (b : Nat) : (leftOf es (seen.push b)).toList = (leftOf es seen).toList.filter fun x => x.born != b := by
  unfold leftOf
  rw [Array.toList_filter, Array.toList_filter, List.filter_filter]
  apply List.filter_congr
  intro x _
  rw [contains_push]
  cases seen.contains x.born <;> simp [bne]
section
variable {P : Program} (w : World) {ops : Array Oper} {rest : List Oper} {o : Oper} {a : Act} {Q : Exit → Act → World → Prop}
/-- 'range m'. -/
theorem wpList_range_iterK (hg : o.guard = none) (mo : Operand) (t k e : TypeId) (hop : o.op = Op.range t mo) (ht : P.underlying t = some (.map k e)) (m : Nat) (l : List ((Int × Int) × Value)) (hm : a.eval mo = .map (some m)) (h : MapKs w m l)
    (hK : ∀ w', IterK w' m w.heap.size l l → Below w.heap.size w w' → w'.heap.size = w.heap.size + 1 → wpList P ops Q rest (a.put o.dst (.pointer (some ⟨w.heap.size, 0, none⟩))) w') :
    wpList P ops Q (o :: rest) a w := by
  obtain ⟨es, clock, h1, h2, h3⟩ := h.some_
  refine wpList_plain hg fun K' hK' => ?_
  have hrun := run_range_map (P := P) w t k e m es clock ht h1
  unfold Oper.wp
  simp [execOp, hop, hm, hrun, Result.andThen]
  refine hK' _ _ (hK _ ⟨es, clock, #[], (Below.heap_alloc w _ m (Array.getElem?_eq_some_iff.1 h1).1).trans h1, h2, h3, heap_alloc_new w _, ?_⟩ ((Below.refl _ _).alloc (Nat.le_refl _) _) (by simp))
  have e1 : leftOf es #[] = es := by unfold leftOf; exact Array.filter_eq_self.2 (fun x _ => by simp)
  rw [e1]
  exact (ents_ofK h2).1
/-- The step. -/
theorem wpList_next_iterK (hg : o.guard = none) (it : Operand) (hop : o.op = Op.next it false) (m r : Nat) (l left : List ((Int × Int) × Value)) (hit : a.eval it = .pointer (some ⟨r, 0, none⟩)) (h : IterK w m r l left)
    (hDone : left = [] → wpList P ops Q rest (a.put o.dst (.tuple #[.bool false])) w)
    (hMore : ∀ (x : Int × Int) (v : Value) (left' : List ((Int × Int) × Value)) (w' : World), left.Perm ((x, v) :: left') → IterK w' m r l left' → Chg (fun k => k = r) w w' → w'.heap.size = w.heap.size → (Instr.entry (.pointer (some ⟨r, 0, none⟩))).run P w' = .ok (.tuple #[idV x, v]) w' →
      wpList P ops Q rest (a.put o.dst (.tuple #[.bool true, idV x, v])) w') :
    wpList P ops Q (o :: rest) a w := by
  have hlt := h.lt
  obtain ⟨es, clock, seen, h1, h2, h3, h4, h5⟩ := h.ex
  obtain ⟨s1, s2, s3⟩ := (MapKept.stamped_iff es clock).1 h3
  obtain ⟨k1, k2⟩ := ents_ofK h2
  refine wpList_plain hg fun K' hK' => ?_
  unfold Oper.wp
  rcases run_next_at (P := P) w o.type r m clock clock seen es clock h4 h1 s1 (Nat.le_refl _) with ⟨h0, hrun⟩ | ⟨e, he, w1, hw1, hrun⟩
  · simp [execOp, hop, hit, hrun, Result.andThen]
    have e0 : (leftOf es seen).toList = [] := by
      have := Array.eq_empty_of_size_eq_zero h0
      rw [this]
    exact hK' _ _ (hDone (by rw [h5, e0]; rfl))
  · simp [execOp, hop, hit, hrun, Result.andThen]
    have hmem := (mem_left he).1
    have hsz : (setBlock w1 r (.mapIter (some m) clock (seen.push e.born) clock)).heap.size = w.heap.size := by rw [size_setBlock]; rcases hw1 with rfl | rfl <;> rfl
    have hw1h : w1.heap = w.heap := by rcases hw1 with rfl | rfl <;> rfl
    have hm' : (setBlock w1 r (.mapIter (some m) clock (seen.push e.born) clock)).heap[m]? = some (.map es clock) := by rw [heap_setBlock _ _ _ _ (fun e => hlt.2.2 e.symm), hw1h]; exact h1
    have hr' : (setBlock w1 r (.mapIter (some m) clock (seen.push e.born) clock)).heap[r]? = some (.mapIter (some m) clock (seen.push e.born) clock) := heap_setBlock_at _ _ _ (by rw [hw1h]; exact hlt.1)
    have hkey := k2 e hmem
    have hent := run_entry_at (P := P) (setBlock w1 r (.mapIter (some m) clock (seen.push e.born) clock)) r m clock seen es clock e hr' hm' hmem s2
    rw [hkey] at hent ⊢
    refine hK' _ _ (hMore (keyK e.key) e.val ((leftOf es (seen.push e.born)).toList.map entK) _ ?_ ⟨es, clock, seen.push e.born, hm', h2, h3, hr', rfl⟩ ?_ hsz hent)
    · rw [h5, left_pushK]
      have hnd : ((leftOf es seen).toList.map (·.born)).Nodup := by
        unfold leftOf
        rw [Array.toList_filter]
        exact (List.Sublist.map _ List.filter_sublist).nodup s2
      exact (filter_outK hnd he).map entK
    · have hc : Chg (fun k => k = r) w w1 := by
        rcases hw1 with rfl | rfl
        · exact Chg.refl _ _
        · exact (Chg.refl _ _).drew
      exact hc.setBlock (.inl rfl) _
end
end Go.Proofs.YtpkkjoiglemlgaaGreatDoor
