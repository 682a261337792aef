import Derived.Test.YtmlnhjfdhjachaaGreatChecked
import Derived.StringKeys
import Derived.Maps.RangeWalk
import Derived.Sort.MapsRangeIn
import Derived.Test.YtmlnhjfdhjachaaGreatQll17
/-
  Maps keyed by texts, whatever the elements: what a look-up, a store, a deletion do to the block's entries. No condition.
-/
namespace Go.Proofs.YtmlnhjfdhjachaaGreat
set_option linter.unusedVariables false
open Go.ChangeShapes Go.WideShapes Go.ChangeAt Go.RowKit
open Go.ChangeMaps (setBlock)
open Go.MapKept (run_checkKey run_findKey findNow_spec run_keyThatStays IsKey)

/-- A row of bytes as a text. -/
def tY (l : List UInt8) : ByteArray := ⟨l.toArray⟩
theorem list_tY (l : List UInt8) : (tY l).data.toList = l := by simp [tY]
/-- A text's value. -/
def strV (p : List UInt8) : Value := .string (tY p)
theorem strV_inj {p q : List UInt8} (h : strV p = strV q) : p = q := by
  unfold strV at h
  injection h with h
  have h := congrArg (fun s : ByteArray => s.data.toList) h
  rwa [list_tY, list_tY] at h
def kvY (l : List (List UInt8 × Value)) : List (Value × Value) := l.map fun p => (strV p.1, p.2)
def lookY (l : List (List UInt8 × Value)) (k : List UInt8) : Option Value := (l.find? fun p => p.1 == k).map (·.2)
/-- A row with an element stored. -/
def putY (l : List (List UInt8 × Value)) (k : List UInt8) (v : Value) : List (List UInt8 × Value) :=
  if (l.map (·.1)).contains k then l.map fun p => if p.1 = k then (k, v) else p else l ++ [(k, v)]
structure MapTs (w : World) (m : Nat) (l : List (List UInt8 × Value)) : Prop where
  some_ : ∃ es clock, w.heap[m]? = some (.map es clock) ∧ kvs es = kvY l ∧ MapKept.Stamped es clock
theorem MapTs.keep {w w' : World} {m : Nat} {l : List (List UInt8 × Value)} (h : MapTs w m l) (hk : w'.heap[m]? = w.heap[m]?) : MapTs w' m l := by
  obtain ⟨es, c, h1, h2⟩ := h.some_
  exact ⟨es, c, hk.trans h1, h2⟩
theorem MapTs.lt {w : World} {m : Nat} {l : List (List UInt8 × Value)} (h : MapTs w m l) : m < w.heap.size := by
  obtain ⟨es, c, h1, _⟩ := h.some_
  exact (Array.getElem?_eq_some_iff.1 h1).1
theorem MapTs.made (w : World) : MapTs (w.alloc (.map #[] 0)) w.heap.size [] := ⟨#[], 0, (MapKept.heap_alloc w _).1, rfl, MapKept.stamped_empty 0⟩

/-- Every text may be a key. -/
def txtOk (_ : List UInt8) : Prop := True
theorem txt_check0 (W : World) (b : Bool) (p : List UInt8) : (Instr.checkKey b 10000 9 (strV p)).run Tryz.prog W = .ok () W :=
  run_checkKey Tryz.underlying9 (d := .string) (k := strV p) trivial b 9999
theorem txt_find0 (W : World) (p : List UInt8) (es : List MapEntry) (hes : ∀ e ∈ es, ∃ q, e.key = strV q) :
    ((Instr.findKey 9 (strV p) es).run Tryz.prog W = .ok none W ∧ ∀ e ∈ es, e.key ≠ strV p) ∨ ∃ j e, (Instr.findKey 9 (strV p) es).run Tryz.prog W = .ok (some (j, e.val)) W ∧ es[j]? = some e ∧ e.key = strV p := by
  have hks : ∀ x ∈ es, IsKey .string x.key := fun x hx => by
    obtain ⟨q, hq⟩ := hes x hx
    rw [hq]
    trivial
  rcases findNow_spec (d := .string) (k := strV p) trivial es 0 hks with ⟨h1, h2⟩ | ⟨j, e0, h1, h2, h3⟩
  · exact Or.inl ⟨Go.MapKept.run_findKey Tryz.underlying9 h1, h2⟩
  · exact Or.inr ⟨j, e0, by simpa using Go.MapKept.run_findKey Tryz.underlying9 h1, h2, h3⟩
theorem txt_stays (W : World) (p : List UInt8) : (Instr.keyThatStays (strV p) (strV p)).run Tryz.prog W = .ok (strV p) W := run_keyThatStays (d := .string) (k := strV p) trivial
section
variable {w : World} {m : Nat} {l : List (List UInt8 × Value)} {k : List UInt8}
theorem stamped_txts {es : Array MapEntry} {c : Nat} (h : MapKept.Stamped es c) (hl : kvs es = kvY l) : (l.map (·.1)).Nodup := by
  have h3 := ((MapKept.stamped_iff es c).1 h).2.2
  have e : l.map (fun p => strV p.1) = es.toList.map (·.key) := by
    have := congrArg (List.map Prod.fst) hl
    simpa [kvs, kvY, Function.comp_def] using this.symm
  have h4 : (l.map fun p => strV p.1).Nodup := by
    rw [e, List.Nodup, List.pairwise_map]
    exact h3.imp (by intro a b h; first | exact h | exact fun e => h e)
  rw [List.Nodup, List.pairwise_map] at h4 ⊢
  exact h4.imp fun h e => h (by rw [e])
theorem lookY_mem (hn : (l.map (·.1)).Nodup) {j : Nat} {v : Value} (h : l[j]? = some (k, v)) : lookY l k = some v := by
  unfold lookY
  induction l generalizing j with
  | nil => simp at h
  | cons p l ih =>
    simp only [List.map_cons, List.nodup_cons] at hn
    cases j with
    | zero =>
      simp only [List.getElem?_cons_zero, Option.some.injEq] at h
      subst h
      simp
    | succ j =>
      simp only [List.getElem?_cons_succ] at h
      have hne : p.1 ≠ k := fun e => hn.1 (by
        rw [e]
        exact List.mem_map.2 ⟨(k, v), List.mem_of_getElem? h, rfl⟩)
      rw [List.find?_cons, beq_eq_false_iff_ne.2 hne]
      exact ih hn.2 h
theorem lookY_none (h : ∀ p ∈ l, p.1 ≠ k) : lookY l k = none := by
  unfold lookY
  rw [Option.map_eq_none_iff, List.find?_eq_none]
  intro p hp
  simpa using h p hp
theorem txt_find (W : World) (hk : txtOk k) {es : Array MapEntry} {c : Nat} (hs : MapKept.Stamped es c) (h : kvs es = kvY l) (hl : ∀ p ∈ l, txtOk p.1) :
    ((Instr.findKey 9 (strV k) es.toList).run Tryz.prog W = .ok none W ∧ (∀ p ∈ l, p.1 ≠ k) ∧ lookY l k = none) ∨
    ∃ j v, (Instr.findKey 9 (strV k) es.toList).run Tryz.prog W = .ok (some (j, v)) W ∧ l[j]? = some (k, v) ∧ lookY l k = some v := by
  have hes : ∀ e ∈ es.toList, ∃ p ∈ l, e.key = strV p.1 ∧ e.val = p.2 := fun e he => by
    have : (e.key, e.val) ∈ kvs es := List.mem_map.2 ⟨e, he, rfl⟩
    rw [h] at this
    obtain ⟨p, hp, hpe⟩ := List.mem_map.1 this
    injection hpe with e1 e2
    exact ⟨p, hp, e1.symm, e2.symm⟩
  have hlen : es.toList.length = l.length := by have := congrArg List.length h; simpa [kvs, kvY] using this
  have hat : ∀ (j : Nat) (e : MapEntry), es.toList[j]? = some e → ∃ p, l[j]? = some p ∧ e.key = strV p.1 ∧ e.val = p.2 := fun j e he => by
    have h1 : (kvs es)[j]? = some (e.key, e.val) := by unfold kvs; rw [List.getElem?_map, he]; rfl
    rw [h] at h1
    unfold kvY at h1
    rw [List.getElem?_map, Option.map_eq_some_iff] at h1
    obtain ⟨p, hp, hpe⟩ := h1
    injection hpe with e1 e2
    exact ⟨p, hp, e1.symm, e2.symm⟩
  rcases txt_find0 W _ es.toList (fun e he => by
    obtain ⟨p, hp, e1, _⟩ := hes e he
    exact ⟨p.1, e1⟩) with ⟨h1, h2⟩ | ⟨j, e, h1, h2, h3⟩
  · have hno : ∀ p ∈ l, p.1 ≠ k := fun p hp e => by
      obtain ⟨j, hj, rfl⟩ := List.getElem_of_mem hp
      obtain ⟨p', hp', e1, _⟩ := hat j _ (List.getElem?_eq_getElem (show j < es.toList.length by omega))
      rw [List.getElem?_eq_getElem hj] at hp'
      injection hp' with hp'
      subst hp'
      exact h2 _ (List.getElem_mem _) (by rw [e1, e])
    exact .inl ⟨h1, hno, lookY_none hno⟩
  · obtain ⟨p, hp, e1, e2⟩ := hat j e h2
    have hpk : p.1 = k := strV_inj (e1.symm.trans h3)
    have hp' : l[j]? = some (k, e.val) := by rw [hp, e2, ← hpk]
    exact .inr ⟨j, e.val, h1, hp', lookY_mem (stamped_txts hs h) hp'⟩
theorem txt_check (W : World) (b : Bool) (hk : txtOk k) : (Instr.checkKey b 10000 9 (strV k)).run Tryz.prog W = .ok () W := by
  exact txt_check0 W b _
theorem putY_new (h : ∀ p ∈ l, p.1 ≠ k) (v : Value) : putY l k v = l ++ [(k, v)] := by
  unfold putY
  rw [if_neg]
  intro hc
  rw [List.contains_iff_mem] at hc
  obtain ⟨p, hp, hpk⟩ := List.mem_map.1 hc
  exact h p hp hpk
theorem nodup_atT {α : Type} : ∀ {l : List α} {i j : Nat} {x : α}, l.Nodup → l[i]? = some x → l[j]? = some x → i = j
  | [], _, _, _, _, h, _ => by simp at h
  | a :: l, 0, 0, _, _, _, _ => rfl
  | a :: l, 0, j + 1, x, hn, h, k => by
    simp only [List.getElem?_cons_zero, Option.some.injEq, List.getElem?_cons_succ] at h k
    subst h
    exact absurd (List.mem_of_getElem? k) (List.nodup_cons.1 hn).1
  | a :: l, i + 1, 0, x, hn, h, k => by
    simp only [List.getElem?_cons_zero, Option.some.injEq, List.getElem?_cons_succ] at h k
    subst k
    exact absurd (List.mem_of_getElem? h) (List.nodup_cons.1 hn).1
  | a :: l, i + 1, j + 1, x, hn, h, k => by
    simp only [List.getElem?_cons_succ] at h k
    rw [nodup_atT (List.nodup_cons.1 hn).2 h k]
theorem putY_old (hn : (l.map (·.1)).Nodup) {j : Nat} {u : Value} (h : l[j]? = some (k, u)) (v : Value) : putY l k v = l.modify j fun _ => (k, v) := by
  unfold putY
  have hm : (l.map (·.1)).contains k = true := by
    rw [List.contains_iff_mem]
    exact List.mem_map.2 ⟨(k, u), List.mem_of_getElem? h, rfl⟩
  rw [if_pos hm]
  apply List.ext_getElem?
  intro i
  rw [List.getElem?_map, List.getElem?_modify]
  by_cases hij : j = i
  · subst hij
    rw [h]
    simp
  · cases hi : l[i]? with
    | none => rfl
    | some p =>
      have hne : p.1 ≠ k := fun e => hij (nodup_atT hn (by rw [List.getElem?_map, h]; rfl) (by rw [List.getElem?_map, hi]; simp [e]))
      simp [hne, hij]
theorem run_putT (t e : TypeId) (ht : Tryz.prog.underlying t = some (.map 9 e)) (h : MapTs w m l) (hl : ∀ p ∈ l, txtOk p.1) (hk : txtOk k) (v : Value) :
    ∃ ob, (∀ W : World, W.heap[m]? = w.heap[m]? → (Instr.mapUpdate t (.map (some m)) (strV k) v).run Tryz.prog W = .ok () (setBlock W m ob)) ∧ (∀ W : World, m < W.heap.size → MapTs (setBlock W m ob) m (putY l k v)) := by
  obtain ⟨es, cl, h1, h2, h3⟩ := h.some_
  rcases txt_find w hk h3 h2 hl with ⟨_, hno, _⟩ | ⟨j, u, h4, hj, _⟩
  · refine ⟨.map (es.push { key := strV k, val := v, born := cl }) (cl + 1), fun W hW => ?_, fun W hlt => ⟨?_⟩⟩
    · have h1' := hW.trans h1
      have h4 : (Instr.findKey 9 (strV k) es.toList).run Tryz.prog W = .ok none W := by
        rcases txt_find W hk h3 h2 hl with ⟨h4, _⟩ | ⟨j, u, _, hj, _⟩
        · exact h4
        · exact absurd rfl (hno _ (List.mem_of_getElem? hj))
      simp only [Instr.mapUpdate, Sem.run_bind, run_underlying ht, Result.andThen_ok, run_getObj_map W m es cl h1', txt_check W _ hk, h4]
      exact MapKept.run_setObj_map _ h1'
    · rw [putY_new hno]
      refine ⟨es.push { key := strV k, val := v, born := cl }, cl + 1, by simp [setBlock, hlt], by simp [kvs, kvY] at h2 ⊢; exact h2, MapKept.stamped_push h3 ?_⟩
      intro x hx he
      have hm : (x.key, x.val) ∈ kvs es := List.mem_map.2 ⟨x, hx, rfl⟩
      rw [h2] at hm
      obtain ⟨p, hp, hpe⟩ := List.mem_map.1 hm
      injection hpe with e1 e2
      exact hno p hp (strV_inj (e1.trans he))
  · obtain ⟨e0, he0, hek⟩ : ∃ e0, es[j]? = some e0 ∧ e0.key = strV k := by
      have h5 := congrArg (fun z => z[j]?) h2
      simp only [kvs, kvY, List.getElem?_map, Array.getElem?_toList] at h5
      rw [hj] at h5
      cases he : es[j]? with
      | none => rw [he] at h5; simp at h5
      | some e =>
        rw [he] at h5
        simp at h5
        exact ⟨e, rfl, h5.1⟩
    have hst : MapKept.Stamped (es.modify j fun x => { key := strV k, val := v, born := x.born }) cl := by
      refine MapKept.stamped_modify h3 j _ (fun e he => ?_) (fun e he h => ?_)
      · rfl
      · obtain rfl : e0 = e := Option.some.inj (he0.symm.trans h)
        exact hek.symm
    refine ⟨.map (es.modify j fun x => { key := strV k, val := v, born := x.born }) cl, fun W hW => ?_, fun W hlt => ⟨?_⟩⟩
    · have h1' := hW.trans h1
      have h4' : ∃ u', (Instr.findKey 9 (strV k) es.toList).run Tryz.prog W = .ok (some (j, u')) W := by
        rcases txt_find W hk h3 h2 hl with ⟨_, hno, _⟩ | ⟨j', u', h4', hj', _⟩
        · exact absurd rfl (hno _ (List.mem_of_getElem? hj))
        · have : j' = j := by
            have hn := stamped_txts h3 h2
            exact nodup_atT hn (x := k) (by rw [List.getElem?_map, hj']; rfl) (by rw [List.getElem?_map, hj]; rfl)
          subst this
          exact ⟨u', h4'⟩
      obtain ⟨u', h4'⟩ := h4'
      simp only [Instr.mapUpdate, Sem.run_bind, run_underlying ht, Result.andThen_ok, run_getObj_map W m es cl h1', txt_check W _ hk, h4', he0, Option.map_some, Option.getD_some, hek, txt_stays W k]
      exact MapKept.run_setObj_map _ h1'
    · rw [putY_old (stamped_txts h3 h2) hj]
      refine ⟨es.modify j fun x => { key := strV k, val := v, born := x.born }, cl, by simp [setBlock, hlt], ?_, hst⟩
      apply List.ext_getElem?
      intro i
      have h5 := congrArg (fun z => z[i]?) h2
      simp only [kvs, kvY, List.getElem?_map, Array.getElem?_toList] at h5 ⊢
      rw [Array.getElem?_modify, List.getElem?_modify]
      by_cases hij : j = i
      · subst hij
        rw [hj] at h5 ⊢
        cases he : es[j]? with
        | none => rw [he] at h5; simp at h5
        | some e =>
          simp
      · simp [hij]
        exact h5
end
end Go.Proofs.YtmlnhjfdhjachaaGreat

/-
  A range over a map of texts: whichever order the entries come in. No condition. (Printed by tools/iterk.py.)
-/
namespace Go.Proofs.YtmlnhjfdhjachaaGreat
set_option linter.unusedVariables false
open Go.ChangeShapes Go.WideShapes Go.ChangeAt Go.RowKit
open Go.ChangeMaps (setBlock)

def keyT : Value → List UInt8
  | .string s => s.data.toList
  | _ => []
theorem keyT_strV (p : List UInt8) : keyT (strV p) = p := list_tY p
def entT (e : MapEntry) : List UInt8 × Value := (keyT e.key, e.val)
theorem ents_ofT {es : List MapEntry} {l : List (List UInt8 × Value)} (h : es.map (fun e => (e.key, e.val)) = kvY l) : l = es.map entT ∧ ∀ e ∈ es, e.key = strV (keyT e.key) := by
  induction es generalizing l with
  | nil =>
    cases l with
    | nil => exact ⟨rfl, fun e he => by cases he⟩
    | cons p l => simp [kvY] at h
  | cons e es ih =>
    cases l with
    | nil => simp [kvY] at h
    | cons p l =>
      simp only [kvY, List.map_cons, List.cons.injEq] at h
      obtain ⟨h1, h2⟩ := h
      obtain ⟨k1, k2⟩ := ih (l := l) h2
      have e1 : e.key = strV p.1 := congrArg (·.1) h1
      have e2 : e.val = p.2 := congrArg (·.2) h1
      refine ⟨?_, fun x hx => ?_⟩
      · rw [List.map_cons, ← k1]
        congr 1
        unfold entT
        rw [e1, e2, keyT_strV]
      · rcases List.mem_cons.1 hx with rfl | hx
        · rw [e1, keyT_strV]
        · exact k2 x hx
/-- A loop over a map that holds l: what is to come yet. -/
structure IterT (w : World) (m r : Nat) (l left : List (List UInt8 × Value)) : Prop where
  ex : ∃ es clock seen, w.heap[m]? = some (.map es clock) ∧ kvs es = kvY l ∧ MapKept.Stamped es clock ∧ w.heap[r]? = some (.mapIter (some m) clock seen clock) ∧ left = (leftOf es seen).toList.map entT
theorem IterT.keep {w w' : World} {m r : Nat} {l left : List (List UInt8 × Value)} (h : IterT w m r l left) (hm : w'.heap[m]? = w.heap[m]?) (hr : w'.heap[r]? = w.heap[r]?) : IterT w' m r l left := by
  obtain ⟨es, c, s, h1, h2, h3, h4, h5⟩ := h.ex
  exact ⟨es, c, s, hm.trans h1, h2, h3, hr.trans h4, h5⟩
theorem IterT.map {w : World} {m r : Nat} {l left : List (List UInt8 × Value)} (h : IterT w m r l left) : MapTs w m l := by
  obtain ⟨es, c, s, h1, h2, h3, h4, h5⟩ := h.ex
  exact ⟨es, c, h1, h2, h3⟩
theorem IterT.lt {w : World} {m r : Nat} {l left : List (List UInt8 × Value)} (h : IterT w m r l left) : r < w.heap.size ∧ m < w.heap.size ∧ r ≠ m := by
  obtain ⟨es, c, s, h1, h2, h3, h4, h5⟩ := h.ex
  refine ⟨(Array.getElem?_eq_some_iff.1 h4).1, (Array.getElem?_eq_some_iff.1 h1).1, fun e => ?_⟩
  rw [e, h1] at h4
  cases h4
theorem filter_outT {es : List MapEntry} (hn : (es.map (·.born)).Nodup) {e : MapEntry} (he : e ∈ es) : es.Perm (e :: es.filter fun x => x.born != e.born) := by
  induction es with
  | nil => cases he
  | cons x es ih =>
    rw [List.map_cons, List.nodup_cons] at hn
    by_cases hx : x.born = e.born
    · have hxe : x = e := by
        rcases List.mem_cons.1 he with h | h
        · exact h.symm
        · exact absurd (List.mem_map.2 ⟨e, h, hx.symm⟩) hn.1
      subst hxe
      have hf : (x :: es).filter (fun y => y.born != x.born) = es := by
        rw [List.filter_cons_of_neg (by simp)]
        exact List.filter_eq_self.2 fun y hy => by
          have : y.born ≠ x.born := fun h => hn.1 (List.mem_map.2 ⟨y, hy, h⟩)
          simpa using this
      rw [hf]
    · have hm : e ∈ es := by
        rcases List.mem_cons.1 he with h | h
        · exact absurd (by rw [h]) hx
        · exact h
      rw [List.filter_cons_of_pos (by simpa using hx)]
      exact ((ih hn.2 hm).cons x).trans (List.Perm.swap ..)
theorem left_pushT (es : Array MapEntry) (seen : Array Nat) (b : Nat) : (leftOf es (seen.push b)).toList = (leftOf es seen).toList.filter fun x => x.born != b := by
  unfold leftOf
  rw [Array.toList_filter, Array.toList_filter, List.filter_filter]
  apply List.filter_congr
  intro x _
  rw [contains_push]
  cases seen.contains x.born <;> simp [bne]
section
variable {P : Program} (w : World) {ops : Array Oper} {rest : List Oper} {o : Oper} {a : Act} {Q : Exit → Act → World → Prop}
end
end Go.Proofs.YtmlnhjfdhjachaaGreat

/-
  A range over a map of texts, in the fenced walk. No condition.
-/
namespace Go.Proofs.YtmlnhjfdhjachaaGreat
set_option linter.unusedVariables false
open Go.ChangeShapes Go.WideShapes Go.ChangeAt Go.RowKit
open Go.ChangeMaps (setBlock)

theorem iterT_left {w : World} {m r : Nat} {l left : List (List UInt8 × Value)} (h : IterT w m r l left) : w.rangeLeft m r = left.length := by
  obtain ⟨es, c, s, h1, h2, h3, h4, h5⟩ := h.ex
  simp only [World.rangeLeft, h1, h4]
  rw [h5]
  simp
section
variable {F : Fence} {n : Nat} {P : Program} (w : World) {ops : Array Oper} {rest : List Oper} {o : Oper} {a : Act} {Q : Exit → Act → World → Prop}
/-- 'range m'. -/
theorem wpListIn_range_iterT (hg : o.guard = none) (mo : Operand) (t k e : TypeId) (hop : o.op = Op.range t mo) (ht : P.underlying t = some (.map k e)) (m : Nat) (l : List (List UInt8 × Value)) (hm : a.eval mo = .map (some m)) (h : MapTs w m l)
    (hK : ∀ w', IterT w' m w.heap.size l l → Below w.heap.size w w' → w'.heap.size = w.heap.size + 1 → wpListIn F n P ops Q rest (a.put o.dst (.pointer (some ⟨w.heap.size, 0, none⟩))) w') :
    wpListIn F n P ops Q (o :: rest) a w := by
  obtain ⟨es, clock, h1, h2, h3⟩ := h.some_
  refine wpListIn_plain hg fun K' hK' => ?_
  have hrun := run_range_map (P := P) w t k e m es clock ht h1
  unfold Oper.wpIn
  refine ⟨by simp [Oper.about, hop], ?_⟩
  rw [Oper.semAt_plain F _ _ (by rw [hop]; intro c hc'; cases hc')]
  simp [execOp, hop, hm, hrun, Result.andThen]
  refine hK' _ _ (hK _ ⟨es, clock, #[], (Below.heap_alloc w _ m (Array.getElem?_eq_some_iff.1 h1).1).trans h1, h2, h3, heap_alloc_new w _, ?_⟩ ((Below.refl _ _).alloc (Nat.le_refl _) _) (by simp))
  have e1 : leftOf es #[] = es := by unfold leftOf; exact Array.filter_eq_self.2 (fun x _ => by simp)
  rw [e1]
  exact (ents_ofT h2).1
/-- The step. -/
theorem wpListIn_next_iterT (hg : o.guard = none) (it : Operand) (hop : o.op = Op.next it false) (m r : Nat) (l left : List (List UInt8 × Value)) (hit : a.eval it = .pointer (some ⟨r, 0, none⟩)) (h : IterT w m r l left)
    (hDone : left = [] → wpListIn F n P ops Q rest (a.put o.dst (.tuple #[.bool false])) w)
    (hMore : ∀ (x : List UInt8) (v : Value) (left' : List (List UInt8 × Value)) (w' : World), left.Perm ((x, v) :: left') → IterT w' m r l left' → Chg (fun k => k = r) w w' → w'.heap.size = w.heap.size → (Instr.entry (.pointer (some ⟨r, 0, none⟩))).run P w' = .ok (.tuple #[strV x, v]) w' →
      wpListIn F n P ops Q rest (a.put o.dst (.tuple #[.bool true, strV x, v])) w') :
    wpListIn F n P ops Q (o :: rest) a w := by
  have hlt := h.lt
  obtain ⟨es, clock, seen, h1, h2, h3, h4, h5⟩ := h.ex
  obtain ⟨s1, s2, s3⟩ := (MapKept.stamped_iff es clock).1 h3
  obtain ⟨k1, k2⟩ := ents_ofT h2
  refine wpListIn_plain hg fun K' hK' => ?_
  unfold Oper.wpIn
  refine ⟨by simp [Oper.about, hop], ?_⟩
  rw [Oper.semAt_plain F _ _ (by rw [hop]; intro c hc'; cases hc')]
  rcases run_next_at (P := P) w o.type r m clock clock seen es clock h4 h1 s1 (Nat.le_refl _) with ⟨h0, hrun⟩ | ⟨e, he, w1, hw1, hrun⟩
  · simp [execOp, hop, hit, hrun, Result.andThen]
    have e0 : (leftOf es seen).toList = [] := by
      have := Array.eq_empty_of_size_eq_zero h0
      rw [this]
    exact hK' _ _ (hDone (by rw [h5, e0]; rfl))
  · simp [execOp, hop, hit, hrun, Result.andThen]
    have hmem := (mem_left he).1
    have hsz : (setBlock w1 r (.mapIter (some m) clock (seen.push e.born) clock)).heap.size = w.heap.size := by rw [size_setBlock]; rcases hw1 with rfl | rfl <;> rfl
    have hw1h : w1.heap = w.heap := by rcases hw1 with rfl | rfl <;> rfl
    have hm' : (setBlock w1 r (.mapIter (some m) clock (seen.push e.born) clock)).heap[m]? = some (.map es clock) := by rw [heap_setBlock _ _ _ _ (fun e => hlt.2.2 e.symm), hw1h]; exact h1
    have hr' : (setBlock w1 r (.mapIter (some m) clock (seen.push e.born) clock)).heap[r]? = some (.mapIter (some m) clock (seen.push e.born) clock) := heap_setBlock_at _ _ _ (by rw [hw1h]; exact hlt.1)
    have hkey := k2 e hmem
    have hent := run_entry_at (P := P) (setBlock w1 r (.mapIter (some m) clock (seen.push e.born) clock)) r m clock seen es clock e hr' hm' hmem s2
    rw [hkey] at hent ⊢
    refine hK' _ _ (hMore (keyT e.key) e.val ((leftOf es (seen.push e.born)).toList.map entT) _ ?_ ⟨es, clock, seen.push e.born, hm', h2, h3, hr', rfl⟩ ?_ hsz hent)
    · rw [h5, left_pushT]
      have hnd : ((leftOf es seen).toList.map (·.born)).Nodup := by
        unfold leftOf
        rw [Array.toList_filter]
        exact (List.Sublist.map _ List.filter_sublist).nodup s2
      exact (filter_outT hnd he).map entT
    · have hc : Chg (fun k => k = r) w w1 := by
        rcases hw1 with rfl | rfl
        · exact Chg.refl _ _
        · exact (Chg.refl _ _).drew
      exact hc.setBlock (.inl rfl) _
end
end Go.Proofs.YtmlnhjfdhjachaaGreat

/-
  What a view has read, by rising keys (layer 27): pairs. No condition.
-/
namespace Go.Proofs.YtmlnhjfdhjachaaGreat
set_option linter.unusedVariables false
open Go.ChangeShapes Go.WideShapes Go.ChangeAt Go.RowKit Go.Shelf
open Go.ChangeMaps (setBlock)

def seenV (l : List (ByteArray × ByteArray)) : List (List UInt8 × Value) := l.map fun p => (p.1.data.toList, .agg #[.string p.1, .string p.2])
def decP (e : List UInt8 × Value) : ByteArray × ByteArray := match e.2 with
  | .agg #[.string a, .string b] => (a, b)
  | _ => (ByteArray.empty, ByteArray.empty)
theorem dec_seen (l : List (ByteArray × ByteArray)) : (seenV l).map decP = l := by
  unfold seenV
  rw [List.map_map]
  exact (List.map_congr_left fun p _ => rfl).trans (List.map_id _)
theorem seen_perm {lf : List (ByteArray × ByteArray)} {x : List UInt8} {v : Value} {left' : List (List UInt8 × Value)} (h : (seenV lf).Perm ((x, v) :: left')) :
    ∃ p lf', x = p.1.data.toList ∧ v = .agg #[.string p.1, .string p.2] ∧ left' = seenV lf' ∧ lf.Perm (p :: lf') := by
  have hall : ∀ e ∈ (x, v) :: left', ∃ p : ByteArray × ByteArray, e = (p.1.data.toList, .agg #[.string p.1, .string p.2]) := fun e he => by
    obtain ⟨p, _, hp⟩ := List.mem_map.1 (h.mem_iff.2 he)
    exact ⟨p, hp.symm⟩
  obtain ⟨p, hp⟩ := hall _ (List.mem_cons_self ..)
  injection hp with h1 h2
  have h3 : seenV (left'.map decP) = left' := by
    unfold seenV
    rw [List.map_map]
    refine (List.map_congr_left (g := id) fun e he => ?_).trans (List.map_id _)
    obtain ⟨q, rfl⟩ := hall e (List.mem_cons_of_mem _ he)
    rfl
  refine ⟨p, left'.map decP, h1, h2, h3.symm, ?_⟩
  have h4 := h.map decP
  rw [dec_seen, List.map_cons, h2] at h4
  exact h4
theorem putAll_len : ∀ (l m : List (ByteArray × ByteArray)), (putAll m l).length ≤ m.length + l.length
  | [], m => Nat.le_refl _
  | p :: l, m => by
    have h1 := putAll_len l (putP (geP p.1) p.1 p.2 m false)
    have h2 := putP_len (geP p.1) p.1 p.2 m false
    show (putAll (putP (geP p.1) p.1 p.2 m false) l).length ≤ m.length + (l.length + 1)
    simp at h2
    omega
theorem putAll_snoc (l m : List (ByteArray × ByteArray)) (p : ByteArray × ByteArray) : putAll m (l ++ [p]) = putP (geP p.1) p.1 p.2 (putAll m l) false := by unfold putAll; rw [List.foldl_append]; rfl
/-- Between two keys that are put. -/
structure PairRel (w : World) (mb r t : Nat) (seen : List (ByteArray × ByteArray)) (wr : World) : Prop where
  ex : ∃ dn lf Q, IterT wr mb r (seenV seen) (seenV lf) ∧ TabIn wr Q t (putAll [] dn) ∧ (dn ++ lf).Perm seen ∧ (∀ k, Q k → w.heap.size ≤ k ∧ k ≠ r)
  below : Below w.heap.size w wr
/-- Between two pairs that are handed out. -/
structure OutRel (wN : World) (ob : Nat) (pre : List (ByteArray × ByteArray)) (W : World) : Prop where
  chg : Chg (fun k => k = ob) wN W
  ex : ∃ v, Blk W ob 37 #[v] ∧ W.ownsRow (wN.heap.size + 2) 90 2 v pre.length (pairL pre)
theorem pairs_own_cells {W : World} {base n : Nat} {v : Value} {xs : List Value} (h : W.ownsRow base 90 2 v n xs) {W' : World} (hk : ∀ k, base ≤ k → k < W.heap.size → W'.heap[k]? = W.heap[k]?) : W'.ownsRow base 90 2 v n xs :=
  ⟨h.1, h.2.imp id fun ⟨g, cap, cur, e1, e2, e3, r⟩ => ⟨g, cap, cur, e1, e2, (hk g e2 (Array.getElem?_eq_some_iff.1 e3).1).trans e3, r⟩⟩
theorem OutRel.below {wN W W' : World} {ob : Nat} {pre : List (ByteArray × ByteArray)} (h : OutRel wN ob pre W) (hb : Below W.heap.size W W') : OutRel wN ob pre W' := by
  obtain ⟨v, h1, h2⟩ := h.ex
  exact ⟨h.chg.next_ hb, v, h1.below hb h1.lt, pairs_own_cells h2 fun k _ hk => hb.block k hk⟩
theorem OutRel.put {wN W : World} {ob : Nat} {pre : List (ByteArray × ByteArray)} (h : OutRel wN ob pre W) (hob : ob < wN.heap.size) (o : Obj) : OutRel wN ob pre (W.putObj (wN.heap.size + 1) o) := by
  obtain ⟨v, h1, h2⟩ := h.ex
  refine ⟨⟨h.chg.os, h.chg.tape, h.chg.output, by simpa [World.putObj] using h.chg.size, fun k hk hn => (World.putObj_heap_other (by omega)).trans (h.chg.block k hk hn)⟩, v, h1.keep (World.putObj_heap_other (by omega)), pairs_own_cells h2 fun k h3 _ => World.putObj_heap_other (by omega)⟩
theorem chg_grown {w w' : World} {row : Option Nat} (h : w.grownBy w' row) : Chg (fun k => row = some k) w w' := ⟨h.os, h.tape, h.output, h.size, fun k hk hn => h.block k hk fun e => hn e.symm⟩
theorem own_shape {W : World} {base n : Nat} {v : Value} {xs : List Value} (h : W.ownsRow base 90 2 v n xs) : (∃ A c, v = .slice A n c) ∧ ∀ k, v.ownBlock = some k → base ≤ k := by
  rcases h.2 with ⟨rfl, rfl⟩ | ⟨g, cap, _, rfl, hb, _⟩
  · exact ⟨⟨none, 0, rfl⟩, fun k hk => by cases hk⟩
  · exact ⟨⟨_, cap, rfl⟩, fun k hk => by injection hk with hk; rw [← hk]; exact hb⟩
theorem pair_cells (W : World) (a b : Value) (j : Nat) (u : Value) (h : [a, b][j]? = some u) : (W.alloc (.cells #[a, b] 90)).cell? ((⟨W.heap.size, 0, none⟩ : Addr).add j) = some u := by
  have hB := Blk.new W 90 #[a, b]
  rw [Addr.add_lit, Nat.zero_add, hB.cell j]
  rw [← h]
  match j with
  | 0 => rfl
  | 1 => rfl
  | j + 2 => simp at h
theorem pairL_add (l : List (ByteArray × ByteArray)) (a b : ByteArray) : pairL l ++ [.string a, .string b] = pairL (l ++ [(a, b)]) := pairL_snoc l (a, b)
set_option maxRecDepth 100000 in
theorem tabFrom_any (t : Nat) (k : ByteArray) (w : World) : Calls Tryz.prog 87 #[.pointer (some ⟨t, 0, none⟩), .string k] w fun e w' => e = .returned (.func (.func 110) #[] #[.pointer (some ⟨w.heap.size, 0, none⟩), .pointer (some ⟨w.heap.size + 1, 0, none⟩)]) ∧
    w' = (w.alloc (.cells #[.pointer (some ⟨t, 0, none⟩)] 165)).alloc (.cells #[.string k] 9) := by
  go_enter Tryz.func87, Tryz.ntmps87
  go_wp2_with fail
  go_ret
  exact ⟨rfl, rfl⟩
attribute [local go_sem] Oper.semAt_some
set_option maxRecDepth 100000 in
set_option maxHeartbeats 8000000 in
theorem viewPairs_any {w : World} {b mb : Nat} {seen : List (ByteArray × ByteArray)} (hc : w.cell? ⟨b, 16, none⟩ = some (.map (some mb))) (hM : MapTs w mb (seenV seen)) (hn : (seen.map (·.1)).Nodup) (hl : seen.length ≤ 900) :
    Calls Tryz.prog 55 #[.pointer (some ⟨b, 0, none⟩)] w fun e w' => ∃ v, e = .returned v ∧ w'.ownsRow w.heap.size 90 2 v (putAll [] seen).length (pairL (putAll [] seen)) ∧ Below w.heap.size w w' := by
  obtain ⟨i0, hi, hz0, hz1, hz2⟩ : ∃ i, Tryz.prog.info? 90 = some i ∧ i.zero = some (.agg #[.string ⟨#[]⟩, .string ⟨#[]⟩]) ∧ i.size = 2 ∧ i.bytes = 32 := ⟨_, rfl, rfl, rfl, rfl⟩
  have hblt : b < w.heap.size := World.block_lt_of_cell? w _ hc
  have hmlt := hM.lt
  replace hM := Lib.hid hM
  replace hn := Lib.hid hn
  replace hl := Lib.hid hl
  refine (callsIn_wide (n := 0)).1 ?_
  refine callsIn_of_wp_marks Tryz.func55 rfl trivial ?_ rfl
  simp only [Tryz.ntmps55, List.size_toArray, List.length_cons, List.length_nil, Nat.reduceAdd, Nat.reduceSub, Array.replicate_succ, Array.replicate_zero, List.push_toArray, List.append_toArray, List.nil_append, List.cons_append]
  gi_wp2
  refine ⟨trivial, rfl, (callsIn_wide.2 (tabNew_any _)).mono ?_⟩
  rintro e w1 ⟨rfl, hT, hb1, hs1⟩
  have hc1 := (World.cell?_of_block (w := w) (w' := w1) (a := ⟨b, 16, none⟩) (hb1.block b hblt)).trans hc
  have hM1 := hM.out.keep (hb1.block mb hmlt)
  replace hT := Lib.hid hT
  replace hM1 := Lib.hid hM1
  replace hb1 := Lib.hid hb1
  replace hM := Lib.hid hM
  clear hc
  replace hs1 := Lib.hid hs1
  gi_wp2_with (first | (gi_at_range; refine wpListIn_range_iterT _ rfl _ 95 9 90 rfl Tryz.underlying95 mb (seenV seen) rfl hM1.out ?_; intro w2 hit hb2 hs2; replace hit := Lib.hid hit; replace hb2 := Lib.hid hb2; go_frame))
  gi_loopw [4, 5] (fun _ _ wr => PairRel w mb w1.heap.size w.heap.size seen wr) (fun _ _ wr => wr.rangeLeft mb w1.heap.size)
  case atStart =>
    refine ⟨⟨[], seen, fun k => k = w.heap.size, hit.out, ?_, List.Perm.refl _, fun k hk => ⟨by omega, by have := hs1.out; omega⟩⟩, Below.next_ hb1.out hb2.out⟩
    obtain ⟨kv, vv, Qk, Qv, e1, e2, e3, e4, e5, e6, e7, e8⟩ := hT.out.ex
    have hk : ∀ g, g < w1.heap.size → w2.heap[g]? = w1.heap[g]? := fun g hg => hb2.out.block g hg
    exact ⟨kv, vv, Qk, Qv, e1.keep (hk _ e1.lt), e2.keep fun g hg => hk g (e8 g (e7 g (.inl hg))), e3.keep fun g hg => hk g (e8 g (e7 g (.inr (.inl hg)))), e4, e5, e6, e7, fun k hk => by have := e8 k hk; omega⟩
  case round =>
    clear hit hb2 hT hM1
    obtain ⟨⟨dn, lf, Q, hit, hT, hperm, hQ⟩, hbl⟩ := hrel
    have hmeas := iterT_left hit
    have hTl : w.heap.size < wr.heap.size := by obtain ⟨_, _, _, _, e1, _⟩ := hT.ex; exact e1.lt
    replace hT := Lib.hid hT
    replace hit := Lib.hid hit
    replace hperm := Lib.hid hperm
    replace hbl := Lib.hid hbl
    replace hQ := Lib.hid hQ
    gi_wp2_with (first | (gi_at_next; refine wpListIn_next_iterT _ rfl _ rfl mb w1.heap.size (seenV seen) (seenV lf) rfl hit.out ?_ ?_))
    · intro hl0
      have hlf : lf = [] := by cases lf with
        | nil => rfl
        | cons p l => simp [seenV] at hl0
      subst hlf
      have hpd : dn.Perm seen := by simpa using hperm.out
      have hnd : (dn.map (·.1)).Nodup := (hpd.map _).nodup_iff.2 hn.out
      have hall : putAll [] dn = putAll [] seen := putAll_perm hpd hnd
      have hrs : Rises (putAll [] dn) := putAll_rises rises_nil
      have hln : (putAll [] dn).length ≤ 900 := by have h1 := putAll_len dn []; have h2 := hpd.length_eq; have h3 := hl.out; simp at h1; omega
      rw [hall] at hrs hln
      obtain ⟨kv, vv, Qk, Qv, e1, e2, e3, e4, e5, e6, e7, e8⟩ := hT.out.ex
      rw [hall] at e2 e3
      generalize hm : putAll [] seen = m at *
      replace hm := Lib.hid hm
      replace hall := Lib.hid hall
      replace e1 := Lib.hid e1
      replace e2 := Lib.hid e2
      replace e3 := Lib.hid e3
      replace e7 := Lib.hid e7
      replace e8 := Lib.hid e8
      replace hpd := Lib.hid hpd
      replace hnd := Lib.hid hnd
      replace hrs := Lib.hid hrs
      clear hl0 hmeas
      gi_wp2
      refine ⟨trivial, rfl, (callsIn_wide.2 (tabFrom_any _ _ _)).mono ?_⟩
      rintro e w6 ⟨rfl, rfl⟩
      gi_wp2
      have B0 := ((Blk.new wr 37 #[.slice none 0 0]).alloc (.cells #[.pointer (some ⟨w.heap.size, 0, none⟩)] 165)).alloc (.cells #[.string ⟨#[]⟩] 9)
      have B1 := (Blk.new (wr.alloc (.cells #[.slice none 0 0] 37)) 165 #[.pointer (some ⟨w.heap.size, 0, none⟩)]).alloc (.cells #[.string ⟨#[]⟩] 9)
      have B2 := Blk.new ((wr.alloc (.cells #[.slice none 0 0] 37)).alloc (.cells #[.pointer (some ⟨w.heap.size, 0, none⟩)] 165)) 9 #[.string ⟨#[]⟩]
      simp only [World.size_alloc, Nat.add_assoc, Nat.reduceAdd] at B1 B2
      have hW0 : Below wr.heap.size wr (((wr.alloc (.cells #[.slice none 0 0] 37)).alloc (.cells #[.pointer (some ⟨w.heap.size, 0, none⟩)] 165)).alloc (.cells #[.string ⟨#[]⟩] 9)) := Below.more_ (Below.more_ (Below.more_ (Below.refl _ _) _) _) _
      have hsz : (((wr.alloc (.cells #[.slice none 0 0] 37)).alloc (.cells #[.pointer (some ⟨w.heap.size, 0, none⟩)] 165)).alloc (.cells #[.string ⟨#[]⟩] 9)).heap.size = wr.heap.size + 3 := by simp
      generalize (((wr.alloc (.cells #[.slice none 0 0] 37)).alloc (.cells #[.pointer (some ⟨w.heap.size, 0, none⟩)] 165)).alloc (.cells #[.string ⟨#[]⟩] 9)) = W0 at *
      have start : ∀ o, OutRel W0 wr.heap.size [] ((W0.alloc (.deferred (some []))).alloc o) := fun o =>
        ⟨((Chg.refl _ _).alloc _).alloc _, .slice none 0 0, (B0.alloc _).alloc _, World.ownsRow_nil _ _ _ _⟩
      have hFrom : ∀ pre W, OutRel W0 wr.heap.size pre W → FromAt W w.heap.size (wr.heap.size + 1) (wr.heap.size + 2) kv vv m := fun pre W h => by
        have hk : ∀ g, g < wr.heap.size → W.heap[g]? = wr.heap[g]? := fun g hg => (h.chg.block g (by omega) (by omega)).trans (hW0.block g hg)
        exact ⟨e1.out.keep (hk _ hTl), (e2.out.keep fun g hg => hk g (e8.out g (e7.out g (.inl hg)))).mono fun _ _ _ => trivial, (e3.out.keep fun g hg => hk g (e8.out g (e7.out g (.inr (.inl hg))))).mono fun _ _ _ => trivial, B1.keep (h.chg.block _ (by omega) (by omega)), B2.keep (h.chg.block _ (by omega) (by omega))⟩
      replace hsz := Lib.hid hsz
      replace hW0 := Lib.hid hW0
      replace B0 := Lib.hid B0
      replace B1 := Lib.hid B1
      replace B2 := Lib.hid B2
      refine rangeFunc_eff2 (gf := 110) (lb := #[.pointer (some ⟨wr.heap.size + 1, 0, none⟩), .pointer (some ⟨wr.heap.size + 1 + 1, 0, none⟩)]) rfl (enters_of Tryz.func110 (by kernel_rfl) rfl) (encs := encP) (fun _ => rfl)
        (fun pre W => OutRel W0 wr.heap.size pre W)
        (fun pre x W => OutRel W0 wr.heap.size pre W ∧ m[pre.length]? = some x)
        (fun xs W => OutRel W0 wr.heap.size xs W ∧ xs = m)
        (start _) (fun _ o' _ => start o') ?hI ?hE ?hiter ?a1 (fun _ W => W) (fun _ W => Below.refl _ _) ?hassign ?hbody ?hdone
      case hI =>
        intro pre W o h
        exact h.put (by have := hsz.out; omega) o
      case hE =>
        rintro xs W o ⟨h, he⟩
        exact ⟨h.put (by have := hsz.out; omega) o, he⟩
      case hiter =>
        intro rec W hI hB hY
        exact from_iter hrs.out (by omega) (fun pre W => OutRel W0 wr.heap.size pre W) hFrom (fun pre W W' h hb => h.below hb) _ _ rec hY W hI hB
      case hassign =>
        intro lo x W K hK
        rw [show (#[27, 28] : Array Tmp).zip (encP x) = #[(27, .string x.1), (28, .string x.2)] from by apply Array.ext'; simp [encP]]
        gi_wp2
        exact hK
      case hbody =>
        rintro pre ⟨xk, xv⟩ W o rec ⟨hO, hx⟩ hlW hB
        have hpl : pre.length < m.length := (List.getElem?_eq_some_iff.1 hx).1
        have hO1 := hO.put (by have := hsz.out; omega) o
        have hlW1 : W0.heap.size + 1 < (W.putObj (W0.heap.size + 1) o).heap.size := by simpa [World.putObj] using hlW
        dsimp only at hB ⊢
        generalize W.putObj (W0.heap.size + 1) o = W1 at *
        obtain ⟨v, hb, hown⟩ := hO1.ex
        obtain ⟨⟨A, cp, rfl⟩, hob⟩ := own_shape hown
        have c0 := hb.cell 0
        have hbl1 := hb.lt
        have hobl : wr.heap.size < W0.heap.size := by have := hsz.out; omega
        replace hO := Lib.hid hO
        replace hO1 := Lib.hid hO1
        replace hb := Lib.hid hb
        replace hown := Lib.hid hown
        replace hob := Lib.hid hob
        replace hB := Lib.hid hB
        replace hx := Lib.hid hx
        clear hO start hFrom
        gi_wp2_with (gi_at_builtin; refine wpListIn_append_own _ rfl _ _ 37 rfl (W0.heap.size + 2) 90 i0 (.agg #[.string ⟨#[]⟩, .string ⟨#[]⟩]) 2 32 Tryz.underlying37 hi hz0 hz1 hz2 rfl (by decide) _ _ _ rfl (hown.out.alloc _) ⟨W1.heap.size, 0, none⟩ 1 1 [.string xk, .string xv] rfl rfl (pair_cells W1 _ _) (by simp [Value.oneCell']) (by unfold maxLen; omega) (by omega) (by simp; omega) ?_; intro v2 W2 hown2 hgr hnil; rw [pairL_add] at hown2; obtain ⟨⟨A2, cp2, rfl⟩, hob2⟩ := own_shape hown2; have hb2 : Blk W2 wr.heap.size 37 #[.slice A pre.length cp] := Blk.grown (hb.out.alloc (.cells #[.string xk, .string xv] 90)) hgr (fun e => by have := hob.out _ e.symm; omega); have d2 := hb2.cell 0; have f2 := hb2.frozen 0; have hl2 := hb2.lt; clear hnil; replace hown2 := Lib.hid hown2; replace hgr := Lib.hid hgr; replace hob2 := Lib.hid hob2; replace hb2 := Lib.hid hb2)
        have hgc := chg_grown hgr.out
        have hkk : ∀ k, k < W1.heap.size → k < W0.heap.size + 2 → k ≠ wr.heap.size → (W2.setCell ⟨wr.heap.size, 0, none⟩ (.slice A2 (pre.length + 1) cp2)).heap[k]? = W1.heap[k]? := fun k h1 h2 h3 => by
          rw [Below.heap_setCell _ _ _ _ h3, hgc.block k (by simp; omega) (fun e => by have := hob.out _ e; omega)]
          exact Below.heap_alloc _ _ _ h1
        refine ⟨⟨?_, .slice A2 (pre.length + 1) cp2, ?_, ?_⟩, (hkk _ hlW1 (by omega) (by omega)).trans hB.out.1, (hkk _ (by omega) (by omega) (by omega)).trans hB.out.2⟩
        · exact Chg.setCell (p := ⟨wr.heap.size, 0, none⟩) ((hO1.out.chg.alloc _).trans hgc fun k hk => .inr (by have := hob.out _ hk; omega)) (.inl rfl) _
        · exact Blk.eq_cs (hb2.out.set_ 0 _) rfl
        · have h5 := hown2.out
          rw [List.length_append, List.length_singleton]
          exact pairs_own_cells h5 fun k h1 _ => Below.heap_setCell _ _ _ _ (by show k ≠ wr.heap.size; omega)
      case hdone =>
        rintro xs W ⟨hO, rfl⟩ hD
        obtain ⟨v, hb, hown⟩ := hO.ex
        obtain ⟨⟨A, cp, rfl⟩, hob⟩ := own_shape hown
        have c0 := hb.cell 0
        have hbl1 := hb.lt
        have hDl : W0.heap.size < W.heap.size := (Array.getElem?_eq_some_iff.1 hD).1
        replace hO := Lib.hid hO
        replace hb := Lib.hid hb
        replace hown := Lib.hid hown
        replace hob := Lib.hid hob
        replace hD := Lib.hid hD
        clear start hFrom
        gi_wp2
        refine ⟨by simp, .inl ⟨_, _, rfl, run_takeDeferred hD.out, ?_⟩⟩
        refine ⟨.slice A xs.length cp, by simp [results, Tryz.results55, go_sem], .slice A xs.length cp, rfl, ?_, ?_⟩
        · rw [hm.out]
          have h6 := pairs_own_cells (W' := W.putObj W0.heap.size (.deferred none)) hown.out fun k h1 _ => World.putObj_heap_other (by omega)
          refine ⟨h6.1, h6.2.imp id fun ⟨g, cap, cur, k1, k2, k3, k4⟩ => ⟨g, cap, cur, k1, by have := hbl.out.size; have := hsz.out; omega, ?_, k4⟩⟩
          first | exact k3 | (rw [World.putObj_heap_other (by omega)] at k3 ⊢; exact k3)
        · have hc := hO.out.chg
          have hs1 := hbl.out.size
          have hs2 := hW0.out.size
          have hbb : Below w.heap.size w W := (Below.next_ hbl.out hW0.out).trans (hc.below (fun i hi => by omega) (by omega))
          exact ⟨hbb.os, hbb.tape, hbb.output, by simpa [World.putObj] using hbb.size, fun j hj => (World.putObj_heap_other (by have := hsz.out; omega)).trans (hbb.block j hj)⟩
    · intro x v left' w5 hpm hit5 hch5 hsz5 hen5
      obtain ⟨⟨pk, pv⟩, lf', rfl, rfl, rfl, hpm'⟩ := seen_perm hpm
      rw [show strV (pk, pv).1.data.toList = .string pk from rfl] at hen5 ⊢
      dsimp only at hen5 ⊢
      have hbl5 : Below w.heap.size w w5 := hbl.out.trans (hch5.below (fun i hi => by have := hs1.out; omega) (by have := hbl.out.size; omega))
      have hT5 : TabIn w5 Q w.heap.size (putAll [] dn) := by
        obtain ⟨kv, vv, Qk, Qv, e1, e2, e3, e4, e5, e6, e7, e8⟩ := hT.out.ex
        have hk : ∀ g, Q g → w5.heap[g]? = wr.heap[g]? := fun g hg => hch5.block g (e8 g hg) (hQ.out g hg).2
        exact ⟨kv, vv, Qk, Qv, e1.keep (hk _ (e7 _ (.inr (.inr rfl)))), e2.keep fun g hg => hk g (e7 g (.inl hg)), e3.keep fun g hg => hk g (e7 g (.inr (.inl hg))), e4, e5, e6, e7, fun k hk => by have := e8 k hk; omega⟩
      have hdl : dn.length ≤ 899 := by have h1 := hperm.out.length_eq; have h2 := hpm'.length_eq; have h3 := hl.out; simp at h1 h2; omega
      have hrs : Rises (putAll [] dn) := putAll_rises rises_nil
      have hln : (putAll [] dn).length ≤ 999 := by have h1 := putAll_len dn []; simp at h1; omega
      have hP : TabIn (w5.alloc (.cells #[.string pk, .string pv] 90)) Q w.heap.size (putAll [] dn) := by
        obtain ⟨kv, vv, Qk, Qv, e1, e2, e3, e4, e5, e6, e7, e8⟩ := hT5.ex
        have hk : ∀ g, Q g → (w5.alloc (.cells #[.string pk, .string pv] 90)).heap[g]? = w5.heap[g]? := fun g hg => Below.heap_alloc _ _ _ (e8 g hg)
        exact ⟨kv, vv, Qk, Qv, e1.keep (hk _ (e7 _ (.inr (.inr rfl)))), e2.keep fun g hg => hk g (e7 g (.inl hg)), e3.keep fun g hg => hk g (e7 g (.inr (.inl hg))), e4, e5, e6, e7, fun k hk => by have := e8 k hk; simp; omega⟩
      have hPut := tabPut_any hP hrs hln pk pv
      rw [setTab_put pk pv hrs] at hPut
      replace hPut := Lib.hid hPut
      replace hP := Lib.hid hP
      replace hT5 := Lib.hid hT5
      replace hbl5 := Lib.hid hbl5
      replace hpm := Lib.hid hpm
      replace hpm' := Lib.hid hpm'
      replace hit5 := Lib.hid hit5
      replace hch5 := Lib.hid hch5
      replace hrs := Lib.hid hrs
      replace hmeas := Lib.hid hmeas
      replace hsz5 := Lib.hid hsz5
      gi_wp2
      refine ⟨trivial, rfl, (callsIn_wide.2 hPut.out).mono ?_⟩
      rintro e w6 ⟨rfl, hT6, hC6⟩
      have hs6 := hC6.size
      rw [World.size_alloc] at hs6
      have hil := hit5.out.lt
      have hit6 : IterT w6 mb w1.heap.size (seenV seen) (seenV lf') := hit5.out.keep ((hC6.block mb (by simp; omega) (fun hq => by have := hQ.out _ hq; omega)).trans (Below.heap_alloc _ _ _ hil.2.1)) ((hC6.block w1.heap.size (by simp; omega) (fun hq => (hQ.out _ hq).2 rfl)).trans (Below.heap_alloc _ _ _ hil.1))
      have hb6 : Below w.heap.size w w6 := (Below.more_ hbl5.out _).trans (hC6.below (fun i hi => (hQ.out i hi).1) (by have := hbl5.out.size; simp; omega))
      replace hT6 := Lib.hid hT6
      replace hC6 := Lib.hid hC6
      replace hit6 := Lib.hid hit6
      replace hb6 := Lib.hid hb6
      gi_wp2
      go_roundw
      case rel =>
        have hpe : (dn ++ [(pk, pv)] ++ lf').Perm seen := by
          rw [List.append_assoc]
          exact (List.Perm.append_left dn hpm'.out.symm).trans hperm.out
        have hQ6 : ∀ k, nw Q (w5.alloc (.cells #[.string pk, .string pv] 90)) w6 k → w.heap.size ≤ k ∧ k ≠ w1.heap.size := fun k hk => by
          rcases hk with hk | hk
          · exact hQ.out k hk
          · have := hit5.out.lt.1; have := hbl5.out.size; simp at hk; omega
        first | exact ⟨⟨dn ++ [(pk, pv)], lf', _, hit6.out, by rw [putAll_snoc]; exact hT6.out, hpe, hQ6⟩, hb6.out⟩ | ((repeat apply Exists.intro); refine ⟨?rr, ?ff⟩; (case ff => first | exact rfl | (apply act_eq; apply slots_eq; repeat' (first | apply cons_eq | exact rfl | (apply congrArg Value.bool; first | (simp; done) | (simp; omega)) | (simp [*]; done)))); (case rr => exact ⟨⟨dn ++ [(pk, pv)], lf', _, hit6.out, by rw [putAll_snoc]; exact hT6.out, hpe, hQ6⟩, hb6.out⟩))
      case measure =>
        rw [iterT_left hit6.out, hmeas.out]
        simp [seenV, hpm'.out.length_eq]
end Go.Proofs.YtmlnhjfdhjachaaGreat
