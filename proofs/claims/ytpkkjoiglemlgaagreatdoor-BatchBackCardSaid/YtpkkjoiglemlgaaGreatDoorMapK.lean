/-
  Maps keyed by names (two numbers), whatever the elements: what a look-up, a store, a deletion do to the block's entries. No condition.
-/
import Derived.Test.YtpkkjoiglemlgaaGreatDoorFr
import Derived.Test.YtpkkjoiglemlgaaGreatDoorChecked
import Derived.DeepKeys5
namespace Go.Proofs.YtpkkjoiglemlgaaGreatDoor
set_option linter.unusedVariables false
open Go.ChangeShapes Go.WideShapes Go.ChangeAt Go.RowKit
open Go.ChangeMaps (setBlock)

/-- A name's value. -/
def idV (p : Int × Int) : Value := .agg #[.int .i64 p.1, .int .i64 p.2]
theorem idV_inj {p q : Int × Int} (h : idV p = idV q) : p = q := by
  unfold idV at h
  injection h with h
  have h := congrArg Array.toList h
  injection h with h1 h2
  injection h2 with h2 _
  injection h1 with _ h1
  injection h2 with _ h2
  exact Prod.ext h1 h2
def kvK (l : List ((Int × Int) × Value)) : List (Value × Value) := l.map fun p => (idV p.1, p.2)
def lookK (l : List ((Int × Int) × Value)) (k : Int × Int) : Option Value := (l.find? fun p => p.1 == k).map (·.2)
/-- A row with an element stored. -/
def putK (l : List ((Int × Int) × Value)) (k : Int × Int) (v : Value) : List ((Int × Int) × Value) :=
  if (l.map (·.1)).contains k then l.map fun p => if p.1 = k then (k, v) else p else l ++ [(k, v)]
structure MapKs (w : World) (m : Nat) (l : List ((Int × Int) × Value)) : Prop where
  some_ : ∃ es clock, w.heap[m]? = some (.map es clock) ∧ kvs es = kvK l ∧ MapKept.Stamped es clock
theorem MapKs.keep {w w' : World} {m : Nat} {l : List ((Int × Int) × Value)} (h : MapKs w m l) (hk : w'.heap[m]? = w.heap[m]?) : MapKs w' m l := by
  obtain ⟨es, c, h1, h2⟩ := h.some_
  exact ⟨es, c, hk.trans h1, h2⟩
theorem MapKs.lt {w : World} {m : Nat} {l : List ((Int × Int) × Value)} (h : MapKs w m l) : m < w.heap.size := by
  obtain ⟨es, c, h1, _⟩ := h.some_
  exact (Array.getElem?_eq_some_iff.1 h1).1
theorem MapKs.made (w : World) : MapKs (w.alloc (.map #[] 0)) w.heap.size [] := ⟨#[], 0, (MapKept.heap_alloc w _).1, rfl, MapKept.stamped_empty 0⟩

theorem id_law : WideMaps.KeyLaw Tryz.prog 23 := deep_law_gate (by kernel_rfl) (by decide +kernel) (by decide +kernel) (by kernel_rfl) (by kernel_rfl)
/-- A name of the program's own numbers. -/
def idOk (p : Int × Int) : Prop := (-9223372036854775808 ≤ p.1 ∧ p.1 ≤ 9223372036854775807) ∧ (-9223372036854775808 ≤ p.2 ∧ p.2 ≤ 9223372036854775807)
theorem id_key {p : Int × Int} (h : idOk p) : ∃ l, keyOf Tryz.prog 23 (idV p) = some l := by
  have hk : Tryz.prog.keyType 23 = true := by kernel_rfl
  have hc : Tryz.prog.cellsOf 23 = 2 := by kernel_rfl
  have hci : Tryz.prog.cellsOf 3 = 1 := by kernel_rfl
  have hp : 0 < Tryz.prog.types.size := by decide +kernel
  obtain ⟨m, hm⟩ : ∃ m, Tryz.prog.types.size + 1 = m + 2 := ⟨Tryz.prog.types.size - 1, by omega⟩
  obtain ⟨⟨a1, a2⟩, b1, b2⟩ := h
  obtain ⟨x, y⟩ := p
  have mn : IntKind.i64.min = -9223372036854775808 := by decide +kernel
  have mx : IntKind.i64.max = 9223372036854775807 := by decide +kernel
  have w1 : (Lit.int .i64 x).wf = true := by simp only at a1 a2; simp [Lit.wf, mn, mx]; omega
  have w2 : (Lit.int .i64 y).wf = true := by simp only at b1 b2; simp [Lit.wf, mn, mx]; omega
  rw [← Option.isSome_iff_exists]
  unfold keyOf
  rw [Tryz.underlying23]
  simp only [hk, hm, Value.formed, idV, Tryz.underlying23, hc]
  simp [Program.keyLits, Tryz.underlying23, Tryz.underlying3, hc, hci, w1, w2, Value.cells]
section
variable {w : World} {m : Nat} {l : List ((Int × Int) × Value)} {k : Int × Int}
theorem stamped_keys {es : Array MapEntry} {c : Nat} (h : MapKept.Stamped es c) (hl : kvs es = kvK l) : (l.map (·.1)).Nodup := by
  have h3 := ((MapKept.stamped_iff es c).1 h).2.2
  have e : l.map (fun p => idV p.1) = es.toList.map (·.key) := by
    have := congrArg (List.map Prod.fst) hl
    simpa [kvs, kvK, Function.comp_def] using this.symm
  have h4 : (l.map fun p => idV p.1).Nodup := by
    rw [e, List.Nodup, List.pairwise_map]
    exact h3.imp (by intro a b h; first | exact h | exact fun e => h e)
  rw [List.Nodup, List.pairwise_map] at h4 ⊢
  exact h4.imp fun h e => h (by rw [e])
theorem lookK_mem (hn : (l.map (·.1)).Nodup) {j : Nat} {v : Value} (h : l[j]? = some (k, v)) : lookK l k = some v := by
  unfold lookK
  induction l generalizing j with
  | nil => simp at h
  | cons p l ih =>
    simp only [List.map_cons, List.nodup_cons] at hn
    cases j with
    | zero =>
      simp only [List.getElem?_cons_zero, Option.some.injEq] at h
      subst h
      simp
    | succ j =>
      simp only [List.getElem?_cons_succ] at h
      have hne : p.1 ≠ k := fun e => hn.1 (by
        rw [e]
        exact List.mem_map.2 ⟨(k, v), List.mem_of_getElem? h, rfl⟩)
      rw [List.find?_cons, beq_eq_false_iff_ne.2 hne]
      exact ih hn.2 h
theorem lookK_none (h : ∀ p ∈ l, p.1 ≠ k) : lookK l k = none := by
  unfold lookK
  rw [Option.map_eq_none_iff, List.find?_eq_none]
  intro p hp
  simpa using h p hp
theorem id_find (W : World) (hk : idOk k) {es : Array MapEntry} {c : Nat} (hs : MapKept.Stamped es c) (h : kvs es = kvK l) (hl : ∀ p ∈ l, idOk p.1) :
    ((Instr.findKey 23 (idV k) es.toList).run Tryz.prog W = .ok none W ∧ (∀ p ∈ l, p.1 ≠ k) ∧ lookK l k = none) ∨
    ∃ j v, (Instr.findKey 23 (idV k) es.toList).run Tryz.prog W = .ok (some (j, v)) W ∧ l[j]? = some (k, v) ∧ lookK l k = some v := by
  obtain ⟨lk, hlk⟩ := id_key hk
  have hes : ∀ e ∈ es.toList, ∃ p ∈ l, e.key = idV p.1 ∧ e.val = p.2 := fun e he => by
    have : (e.key, e.val) ∈ kvs es := List.mem_map.2 ⟨e, he, rfl⟩
    rw [h] at this
    obtain ⟨p, hp, hpe⟩ := List.mem_map.1 this
    injection hpe with e1 e2
    exact ⟨p, hp, e1.symm, e2.symm⟩
  have hlen : es.toList.length = l.length := by have := congrArg List.length h; simpa [kvs, kvK] using this
  have hat : ∀ (j : Nat) (e : MapEntry), es.toList[j]? = some e → ∃ p, l[j]? = some p ∧ e.key = idV p.1 ∧ e.val = p.2 := fun j e he => by
    have h1 : (kvs es)[j]? = some (e.key, e.val) := by unfold kvs; rw [List.getElem?_map, he]; rfl
    rw [h] at h1
    unfold kvK at h1
    rw [List.getElem?_map, Option.map_eq_some_iff] at h1
    obtain ⟨p, hp, hpe⟩ := h1
    injection hpe with e1 e2
    exact ⟨p, hp, e1.symm, e2.symm⟩
  rcases id_law.find W hlk es.toList (fun e he => by
    obtain ⟨p, hp, e1, _⟩ := hes e he
    rw [e1]
    exact id_key (hl p hp)) with ⟨h1, h2⟩ | ⟨j, e, h1, h2, h3⟩
  · have hno : ∀ p ∈ l, p.1 ≠ k := fun p hp e => by
      obtain ⟨j, hj, rfl⟩ := List.getElem_of_mem hp
      obtain ⟨p', hp', e1, _⟩ := hat j _ (List.getElem?_eq_getElem (show j < es.toList.length by omega))
      rw [List.getElem?_eq_getElem hj] at hp'
      injection hp' with hp'
      subst hp'
      exact h2 _ (List.getElem_mem _) (by rw [e1, e])
    exact .inl ⟨h1, hno, lookK_none hno⟩
  · obtain ⟨p, hp, e1, e2⟩ := hat j e h2
    have hpk : p.1 = k := idV_inj (e1.symm.trans h3)
    have hp' : l[j]? = some (k, e.val) := by rw [hp, e2, ← hpk]
    exact .inr ⟨j, e.val, h1, hp', lookK_mem (stamped_keys hs h) hp'⟩
theorem id_check (W : World) (b : Bool) (hk : idOk k) : (Instr.checkKey b 10000 23 (idV k)).run Tryz.prog W = .ok () W := by
  obtain ⟨lk, hlk⟩ := id_key hk
  exact id_law.check W b hlk
theorem run_lookK (t e : TypeId) (ht : Tryz.prog.underlying t = some (.map 23 e)) (z : Value) (hz : ∀ w, (zeroValue e).run Tryz.prog w = .ok z w) (h : MapKs w m l) (hl : ∀ p ∈ l, idOk p.1) (hk : idOk k) (c : Bool) :
    (Instr.lookup t (.map (some m)) (idV k) c).run Tryz.prog w = .ok (if c then .tuple #[(lookK l k).getD z, .bool (lookK l k).isSome] else (lookK l k).getD z) w := by
  obtain ⟨es, cl, h1, h2, h3⟩ := h.some_
  simp only [Instr.lookup, Sem.run_bind, run_underlying ht, Result.andThen_ok, run_getObj_map w m es cl h1, Sem.run_pure, id_check w _ hk]
  rcases id_find w hk h3 h2 hl with ⟨h4, _, h5⟩ | ⟨j, v, h4, _, h5⟩
  · rw [h4, h5]; simp [hz]
  · rw [h4, h5]; simp
theorem run_lookK_nil (t e : TypeId) (ht : Tryz.prog.underlying t = some (.map 23 e)) (z : Value) (hz : ∀ w, (zeroValue e).run Tryz.prog w = .ok z w) (W : World) (hk : idOk k) :
    (Instr.lookup t (.map none) (idV k) false).run Tryz.prog W = .ok z W := by
  simp [Instr.lookup, Sem.run_bind, run_underlying ht, Result.andThen_ok, id_check W _ hk, Instr.findKey, run_underlying Tryz.underlying23, Instr.findNow, hz]
theorem putK_new (h : ∀ p ∈ l, p.1 ≠ k) (v : Value) : putK l k v = l ++ [(k, v)] := by
  unfold putK
  rw [if_neg]
  intro hc
  rw [List.contains_iff_mem] at hc
  obtain ⟨p, hp, hpk⟩ := List.mem_map.1 hc
  exact h p hp hpk
theorem nodup_at {α : Type} : ∀ {l : List α} {i j : Nat} {x : α}, l.Nodup → l[i]? = some x → l[j]? = some x → i = j
  | [], _, _, _, _, h, _ => by simp at h
  | a :: l, 0, 0, _, _, _, _ => rfl
  | a :: l, 0, j + 1, x, hn, h, k => by
    simp only [List.getElem?_cons_zero, Option.some.injEq, List.getElem?_cons_succ] at h k
    subst h
    exact absurd (List.mem_of_getElem? k) (List.nodup_cons.1 hn).1
  | a :: l, i + 1, 0, x, hn, h, k => by
    simp only [List.getElem?_cons_zero, Option.some.injEq, List.getElem?_cons_succ] at h k
    subst k
    exact absurd (List.mem_of_getElem? h) (List.nodup_cons.1 hn).1
  | a :: l, i + 1, j + 1, x, hn, h, k => by
    simp only [List.getElem?_cons_succ] at h k
    rw [nodup_at (List.nodup_cons.1 hn).2 h k]
theorem putK_old (hn : (l.map (·.1)).Nodup) {j : Nat} {u : Value} (h : l[j]? = some (k, u)) (v : Value) : putK l k v = l.modify j fun _ => (k, v) := by
  unfold putK
  have hm : (l.map (·.1)).contains k = true := by
    rw [List.contains_iff_mem]
    exact List.mem_map.2 ⟨(k, u), List.mem_of_getElem? h, rfl⟩
  rw [if_pos hm]
  apply List.ext_getElem?
  intro i
  rw [List.getElem?_map, List.getElem?_modify]
  by_cases hij : j = i
  · subst hij
    rw [h]
    simp
  · cases hi : l[i]? with
    | none => rfl
    | some p =>
      have hne : p.1 ≠ k := fun e => hij (nodup_at hn (by rw [List.getElem?_map, h]; rfl) (by rw [List.getElem?_map, hi]; simp [e]))
      simp [hne, hij]
theorem run_putK (t e : TypeId) (ht : Tryz.prog.underlying t = some (.map 23 e)) (h : MapKs w m l) (hl : ∀ p ∈ l, idOk p.1) (hk : idOk k) (v : Value) :
    ∃ ob, (∀ W : World, W.heap[m]? = w.heap[m]? → (Instr.mapUpdate t (.map (some m)) (idV k) v).run Tryz.prog W = .ok () (setBlock W m ob)) ∧ (∀ W : World, m < W.heap.size → MapKs (setBlock W m ob) m (putK l k v)) := by
  obtain ⟨es, cl, h1, h2, h3⟩ := h.some_
  rcases id_find w hk h3 h2 hl with ⟨_, hno, _⟩ | ⟨j, u, h4, hj, _⟩
  · refine ⟨.map (es.push { key := idV k, val := v, born := cl }) (cl + 1), fun W hW => ?_, fun W hlt => ⟨?_⟩⟩
    · have h1' := hW.trans h1
      have h4 : (Instr.findKey 23 (idV k) es.toList).run Tryz.prog W = .ok none W := by
        rcases id_find W hk h3 h2 hl with ⟨h4, _⟩ | ⟨j, u, _, hj, _⟩
        · exact h4
        · exact absurd rfl (hno _ (List.mem_of_getElem? hj))
      simp only [Instr.mapUpdate, Sem.run_bind, run_underlying ht, Result.andThen_ok, run_getObj_map W m es cl h1', id_check W _ hk, h4]
      exact MapKept.run_setObj_map _ h1'
    · rw [putK_new hno]
      refine ⟨es.push { key := idV k, val := v, born := cl }, cl + 1, by simp [setBlock, hlt], by simp [kvs, kvK] at h2 ⊢; exact h2, MapKept.stamped_push h3 ?_⟩
      intro x hx he
      have hm : (x.key, x.val) ∈ kvs es := List.mem_map.2 ⟨x, hx, rfl⟩
      rw [h2] at hm
      obtain ⟨p, hp, hpe⟩ := List.mem_map.1 hm
      injection hpe with e1 e2
      exact hno p hp (idV_inj (e1.trans he))
  · obtain ⟨e0, he0, hek⟩ : ∃ e0, es[j]? = some e0 ∧ e0.key = idV k := by
      have h5 := congrArg (fun z => z[j]?) h2
      simp only [kvs, kvK, List.getElem?_map, Array.getElem?_toList] at h5
      rw [hj] at h5
      cases he : es[j]? with
      | none => rw [he] at h5; simp at h5
      | some e =>
        rw [he] at h5
        simp at h5
        exact ⟨e, rfl, h5.1⟩
    obtain ⟨lk, hlk⟩ := id_key hk
    have hst : MapKept.Stamped (es.modify j fun x => { key := idV k, val := v, born := x.born }) cl := by
      refine MapKept.stamped_modify h3 j _ (fun e he => ?_) (fun e he h => ?_)
      · rfl
      · obtain rfl : e0 = e := Option.some.inj (he0.symm.trans h)
        exact hek.symm
    refine ⟨.map (es.modify j fun x => { key := idV k, val := v, born := x.born }) cl, fun W hW => ?_, fun W hlt => ⟨?_⟩⟩
    · have h1' := hW.trans h1
      have h4' : ∃ u', (Instr.findKey 23 (idV k) es.toList).run Tryz.prog W = .ok (some (j, u')) W := by
        rcases id_find W hk h3 h2 hl with ⟨_, hno, _⟩ | ⟨j', u', h4', hj', _⟩
        · exact absurd rfl (hno _ (List.mem_of_getElem? hj))
        · have : j' = j := by
            have hn := stamped_keys h3 h2
            exact nodup_at hn (x := k) (by rw [List.getElem?_map, hj']; rfl) (by rw [List.getElem?_map, hj]; rfl)
          subst this
          exact ⟨u', h4'⟩
      obtain ⟨u', h4'⟩ := h4'
      simp only [Instr.mapUpdate, Sem.run_bind, run_underlying ht, Result.andThen_ok, run_getObj_map W m es cl h1', id_check W _ hk, h4', he0, Option.map_some, Option.getD_some, hek, id_law.stays W hlk]
      exact MapKept.run_setObj_map _ h1'
    · rw [putK_old (stamped_keys h3 h2) hj]
      refine ⟨es.modify j fun x => { key := idV k, val := v, born := x.born }, cl, by simp [setBlock, hlt], ?_, hst⟩
      apply List.ext_getElem?
      intro i
      have h5 := congrArg (fun z => z[i]?) h2
      simp only [kvs, kvK, List.getElem?_map, Array.getElem?_toList] at h5 ⊢
      rw [Array.getElem?_modify, List.getElem?_modify]
      by_cases hij : j = i
      · subst hij
        rw [hj] at h5 ⊢
        cases he : es[j]? with
        | none => rw [he] at h5; simp at h5
        | some e =>
          simp
      · simp [hij]
        exact h5
theorem eraseK (hn : (l.map (·.1)).Nodup) {j : Nat} {u : Value} (h : l[j]? = some (k, u)) : l.eraseIdx j = l.filter fun p => p.1 != k := by
  induction l generalizing j with
  | nil => simp at h
  | cons p l ih =>
    simp only [List.map_cons, List.nodup_cons] at hn
    cases j with
    | zero =>
      simp only [List.getElem?_cons_zero, Option.some.injEq] at h
      subst h
      simp only [List.eraseIdx_cons_zero, List.filter_cons, bne_self_eq_false, Bool.false_eq_true, if_false]
      symm
      rw [List.filter_eq_self]
      intro x hx
      simp only [bne_iff_ne, ne_eq]
      intro he
      exact hn.1 (he ▸ List.mem_map.2 ⟨x, hx, rfl⟩)
    | succ j =>
      simp only [List.getElem?_cons_succ] at h
      have hk : p.1 ≠ k := fun e => hn.1 (by rw [e]; exact List.mem_map.2 ⟨(k, u), List.mem_of_getElem? h, rfl⟩)
      simp [bne_iff_ne.2 hk, ih hn.2 h]
theorem filterK (h : ∀ p ∈ l, p.1 ≠ k) : (l.filter fun p => p.1 != k) = l := by
  rw [List.filter_eq_self]
  intro p hp
  simpa using h p hp
theorem find_same (W : World) (hk : idOk k) {es : Array MapEntry} {c : Nat} (hs : MapKept.Stamped es c) (h2 : kvs es = kvK l) (hl : ∀ p ∈ l, idOk p.1) {j : Nat} {u : Value} (hj : l[j]? = some (k, u)) : ∃ u', (Instr.findKey 23 (idV k) es.toList).run Tryz.prog W = .ok (some (j, u')) W := by
  rcases id_find W hk hs h2 hl with ⟨_, hno, _⟩ | ⟨j', u', h4', hj', _⟩
  · exact absurd rfl (hno _ (List.mem_of_getElem? hj))
  · have : j' = j := nodup_at (stamped_keys hs h2) (x := k) (by rw [List.getElem?_map, hj']; rfl) (by rw [List.getElem?_map, hj]; rfl)
    subst this
    exact ⟨u', h4'⟩
theorem find_none' (W : World) (hk : idOk k) {es : Array MapEntry} {c : Nat} (hs : MapKept.Stamped es c) (h2 : kvs es = kvK l) (hl : ∀ p ∈ l, idOk p.1) (hno : ∀ p ∈ l, p.1 ≠ k) : (Instr.findKey 23 (idV k) es.toList).run Tryz.prog W = .ok none W := by
  rcases id_find W hk hs h2 hl with ⟨h4, _⟩ | ⟨j, u, _, hj, _⟩
  · exact h4
  · exact absurd rfl (hno _ (List.mem_of_getElem? hj))
theorem run_delK (t e ty : TypeId) (ht : Tryz.prog.underlying t = some (.map 23 e)) (h : MapKs w m l) (hl : ∀ p ∈ l, idOk p.1) (hk : idOk k) :
    ∃ ob, (∀ W : World, W.heap[m]? = w.heap[m]? → (Builtin.delete_ #[t, 23] ty #[.map (some m), idV k]).run Tryz.prog W = .ok (.tuple #[]) (setBlock W m ob)) ∧ (∀ W : World, m < W.heap.size → MapKs (setBlock W m ob) m (l.filter fun p => p.1 != k)) := by
  obtain ⟨es, cl, h1, h2, h3⟩ := h.some_
  rcases id_find w hk h3 h2 hl with ⟨_, hno, _⟩ | ⟨j, u, _, hj, _⟩
  · refine ⟨.map es cl, fun W hW => ?_, fun W hlt => ⟨?_⟩⟩
    · have h1' := hW.trans h1
      simp only [Builtin.delete_, Sem.run_bind, run_underlying ht, Result.andThen_ok, run_getObj_map W m es cl h1', id_check W _ hk, find_none' W hk h3 h2 hl hno, MapKept.run_setObj_map _ h1', List.getElem?_toArray, List.getElem?_cons_zero, List.getElem?_cons_succ, Sem.run_pure]
      rfl
    · rw [filterK hno]
      exact ⟨es, cl, by simp [setBlock, hlt], h2, h3⟩
  · have hj' := (List.getElem?_eq_some_iff.1 hj).1
    refine ⟨.map (es.eraseIdxIfInBounds j) cl, fun W hW => ?_, fun W hlt => ⟨?_⟩⟩
    · have h1' := hW.trans h1
      obtain ⟨u', h4⟩ := find_same W hk h3 h2 hl hj
      simp only [Builtin.delete_, Sem.run_bind, run_underlying ht, Result.andThen_ok, run_getObj_map W m es cl h1', id_check W _ hk, h4, MapKept.run_setObj_map _ h1', List.getElem?_toArray, List.getElem?_cons_zero, List.getElem?_cons_succ, Sem.run_pure]
      rfl
    · have hs : es.size = l.length := by have := congrArg List.length h2; simpa [kvs, kvK] using this
      refine ⟨_, cl, by simp [setBlock, hlt], ?_, MapKept.stamped_erase h3 j⟩
      rw [← eraseK (stamped_keys h3 h2) hj]
      unfold kvs kvK at h2 ⊢
      have e1 : (es.eraseIdxIfInBounds j).toList = es.toList.eraseIdx j := by
        unfold Array.eraseIdxIfInBounds
        rw [dif_pos (by omega)]
        simp
      rw [e1, ChangeMaps.map_eraseIdx, ChangeMaps.map_eraseIdx, h2]
end
end Go.Proofs.YtpkkjoiglemlgaaGreatDoor
