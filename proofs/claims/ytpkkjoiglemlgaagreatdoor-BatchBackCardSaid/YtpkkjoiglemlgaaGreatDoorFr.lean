import Derived.Test.YtpkkjoiglemlgaaGreatDoorBase
import Derived.ChangeMaps5
import Derived.WideLaws
import Derived.Laws.IdiomRangeMap
import Derived.Maps.RangeRun
import Derived.Maps.RangeWalk
/-
  Maps keyed by 64-bit words, whatever the elements: what a look-up, a store of a new key, a deletion, a clearing and a range do to the block's entries. No condition.
-/
namespace Go.Proofs.YtpkkjoiglemlgaaGreatDoor
set_option linter.unusedVariables false
open Go.ChangeShapes Go.WideShapes Go.ChangeAt Go.RowKit
open Go.ChangeMaps (setBlock)

/-- The entries of a map, as keys and values. -/
def kvs (es : Array MapEntry) : List (Value × Value) := es.toList.map fun e => (e.key, e.val)
/-- A row of words and values as keys and values. -/
def kvOf (l : List (Int × Value)) : List (Value × Value) := l.map fun p => (.int .u64 p.1, p.2)
def look (l : List (Int × Value)) (k : Int) : Option Value := (l.find? fun p => p.1 == k).map (·.2)

/-- Block m is a map that holds just l, in some order of its own. -/
structure MapIs (w : World) (m : Nat) (l : List (Int × Value)) : Prop where
  some_ : ∃ es clock, w.heap[m]? = some (.map es clock) ∧ kvs es = kvOf l ∧ MapKept.Stamped es clock
theorem MapIs.keep {w w' : World} {m : Nat} {l : List (Int × Value)} (h : MapIs w m l) (hk : w'.heap[m]? = w.heap[m]?) : MapIs w' m l := by
  obtain ⟨es, c, h1, h2⟩ := h.some_
  exact ⟨es, c, hk.trans h1, h2⟩
theorem MapIs.lt {w : World} {m : Nat} {l : List (Int × Value)} (h : MapIs w m l) : m < w.heap.size := by
  obtain ⟨es, c, h1, _⟩ := h.some_
  exact (Array.getElem?_eq_some_iff.1 h1).1

section
variable {P : Program} (w : World)

theorem findNow_kv (k : Int) : ∀ (es : List MapEntry) (l : List (Int × Value)) (i : Nat), es.map (fun e => (e.key, e.val)) = kvOf l →
    Instr.findNow (.int .u64) (.int .u64 k) es i = some ((l.findIdx? fun p => p.1 == k).bind fun j => (l[j]?).map fun p => (i + j, p.2))
  | [], l, i, h => by
    cases l with
    | nil => simp [Instr.findNow]
    | cons p l => simp [kvOf] at h
  | e :: es, l, i, h => by
    cases l with
    | nil => simp [kvOf] at h
    | cons p l =>
      simp only [List.map_cons, kvOf, List.cons.injEq, Prod.mk.injEq] at h
      obtain ⟨⟨h1, h2⟩, h3⟩ := h
      have ih := findNow_kv k es l (i + 1) h3
      by_cases hk : p.1 = k
      · subst hk
        simp [Instr.findNow, h1, Instr.sameNow, h2, List.findIdx?_cons]
      · have hk' : ¬ k = p.1 := fun e => hk e.symm
        simp only [Instr.findNow, h1, Instr.sameNow, if_true, beq_eq_false_iff_ne.2 hk', ih, List.findIdx?_cons, beq_eq_false_iff_ne.2 hk]
        cases hf : l.findIdx? fun p => p.1 == k with
        | none => simp
        | some j => simp [Nat.add_assoc, Nat.add_comm 1 j]

theorem look_idx (l : List (Int × Value)) (k : Int) : ((l.findIdx? fun p => p.1 == k).bind fun j => (l[j]?).map fun p => p.2) = look l k := by
  unfold look
  induction l with
  | nil => rfl
  | cons p l ih =>
    by_cases hk : p.1 = k
    · simp [List.findIdx?_cons, hk]
    · simp only [List.findIdx?_cons, beq_eq_false_iff_ne.2 hk, Bool.false_eq_true, if_false, List.find?_cons]
      rw [← ih]
      cases hf : l.findIdx? fun p => p.1 == k <;> simp

theorem find_none (l : List (Int × Value)) (k : Int) (h : look l k = none) : (l.findIdx? fun p => p.1 == k) = none := by
  unfold look at h
  rw [Option.map_eq_none_iff] at h
  rw [List.findIdx?_eq_none_iff]
  intro x hx
  exact Bool.eq_false_iff.2 (fun hc => by simpa [hc] using List.find?_eq_none.1 h x hx)

theorem run_findKey (kt : TypeId) (hk : P.underlying kt = some (.int .u64)) (k : Int) (es : Array MapEntry) (l : List (Int × Value)) (h : kvs es = kvOf l) :
    (Instr.findKey kt (.int .u64 k) es.toList).run P w = .ok ((l.findIdx? fun p => p.1 == k).bind fun j => (l[j]?).map fun p => (j, p.2)) w := by
  have := findNow_kv k es.toList l 0 h
  simp only [Nat.zero_add] at this
  simp [Instr.findKey, run_underlying hk, this]

theorem run_checkKey_u64 (kt : TypeId) (hk : P.underlying kt = some (.int .u64)) (k : Int) (b : Bool) : (Instr.checkKey b 10000 kt (.int .u64 k)).run P w = .ok () w := by
  exact MapKept.run_checkKey hk (by simp [MapKept.IsKey]) b 9999

theorem run_look (t kt e : TypeId) (ht : P.underlying t = some (.map kt e)) (hk : P.underlying kt = some (.int .u64)) (z : Value) (hz : ∀ w, (zeroValue e).run P w = .ok z w) (m : Nat) (l : List (Int × Value)) (h : MapIs w m l) (k : Int) (c : Bool) :
    (Instr.lookup t (.map (some m)) (.int .u64 k) c).run P w = .ok (if c then .tuple #[(look l k).getD z, .bool (look l k).isSome] else (look l k).getD z) w := by
  obtain ⟨es, cl, h1, h2, _⟩ := h.some_
  simp only [Instr.lookup, Sem.run_bind, run_underlying ht, Result.andThen_ok, run_getObj_map w m es cl h1, Sem.run_pure, run_checkKey_u64 w kt hk, run_findKey w kt hk k es l h2]
  rw [← look_idx]
  cases hf : l.findIdx? fun p => p.1 == k with
  | none => simp [hz]
  | some j =>
    have hj := (List.findIdx?_eq_some_iff_getElem.1 hf).1
    simp [List.getElem?_eq_getElem hj]

theorem run_put (t kt e : TypeId) (ht : P.underlying t = some (.map kt e)) (hk : P.underlying kt = some (.int .u64)) (m : Nat) (l : List (Int × Value)) (h : MapIs w m l) (k : Int) (hn : look l k = none) (v : Value) :
    ∃ ob, (∀ W : World, W.heap[m]? = w.heap[m]? → (Instr.mapUpdate t (.map (some m)) (.int .u64 k) v).run P W = .ok () (setBlock W m ob)) ∧ (∀ W : World, m < W.heap.size → MapIs (setBlock W m ob) m (l ++ [(k, v)])) := by
  obtain ⟨es, cl, h1, h2, h3⟩ := h.some_
  refine ⟨.map (es.push { key := .int .u64 k, val := v, born := cl }) (cl + 1), fun W hW => ?_, fun W hlt => ⟨?_⟩⟩
  · have h1' := hW.trans h1
    simp only [Instr.mapUpdate, Sem.run_bind, run_underlying ht, Result.andThen_ok, run_getObj_map W m es cl h1', run_checkKey_u64 W kt hk, run_findKey W kt hk k es l h2, find_none l k hn, Option.bind_none]
    exact MapKept.run_setObj_map _ h1'
  · refine ⟨es.push { key := .int .u64 k, val := v, born := cl }, cl + 1, by simp [setBlock, hlt], by simp [kvs, kvOf] at h2 ⊢; exact h2, MapKept.stamped_push h3 ?_⟩
    intro x hx he
    have hm : (x.key, x.val) ∈ kvs es := List.mem_map.2 ⟨x, hx, rfl⟩
    rw [h2] at hm
    obtain ⟨p, hp, hpe⟩ := List.mem_map.1 hm
    simp only [Prod.mk.injEq] at hpe
    rw [he] at hpe
    have hpk : p.1 = k := by simpa using hpe.1
    unfold look at hn
    rw [Option.map_eq_none_iff] at hn
    simpa [hpk] using List.find?_eq_none.1 hn p hp

theorem erase_idx (l : List (Int × Value)) (k : Int) (hn : (l.map (·.1)).Nodup) (j : Nat) (hf : (l.findIdx? fun p => p.1 == k) = some j) : l.eraseIdx j = l.filter (fun p => p.1 != k) := by
  induction l generalizing j with
  | nil => simp at hf
  | cons p l ih =>
    simp only [List.map_cons, List.nodup_cons] at hn
    by_cases hk : p.1 = k
    · subst hk
      have : j = 0 := by simpa [List.findIdx?_cons] using hf.symm
      subst this
      simp only [List.eraseIdx_cons_zero, List.filter_cons, bne_self_eq_false, Bool.false_eq_true, if_false]
      symm
      rw [List.filter_eq_self]
      intro x hx
      simp only [bne_iff_ne, ne_eq]
      intro he
      exact hn.1 (he ▸ List.mem_map.2 ⟨x, hx, rfl⟩)
    · simp only [List.findIdx?_cons, beq_eq_false_iff_ne.2 hk, Bool.false_eq_true, if_false] at hf
      obtain ⟨i, hi, rfl⟩ := Option.map_eq_some_iff.1 hf
      simp [bne_iff_ne.2 hk, ih hn.2 i hi]

theorem run_del (t kt e ty : TypeId) (ht : P.underlying t = some (.map kt e)) (hk : P.underlying kt = some (.int .u64)) (m : Nat) (l : List (Int × Value)) (h : MapIs w m l) (hn : (l.map (·.1)).Nodup) (k : Int) :
    ∃ ob, (∀ W : World, W.heap[m]? = w.heap[m]? → (Builtin.delete_ #[t, kt] ty #[.map (some m), .int .u64 k]).run P W = .ok (.tuple #[]) (setBlock W m ob)) ∧ (∀ W : World, m < W.heap.size → MapIs (setBlock W m ob) m (l.filter fun p => p.1 != k)) := by
  obtain ⟨es, cl, h1, h2, h3⟩ := h.some_
  cases hf : l.findIdx? fun p => p.1 == k with
  | none =>
    refine ⟨.map es cl, fun W hW => ?_, fun W hlt => ⟨?_⟩⟩
    · have h1' := hW.trans h1
      simp only [Builtin.delete_, Sem.run_bind, run_underlying ht, Result.andThen_ok, run_getObj_map W m es cl h1', run_checkKey_u64 W kt hk, run_findKey W kt hk k es l h2, hf, Option.bind_none, MapKept.run_setObj_map _ h1', List.getElem?_toArray, List.getElem?_cons_zero, List.getElem?_cons_succ, Sem.run_pure]
      rfl
    · refine ⟨es, cl, by simp [setBlock, hlt], h2.trans ?_, h3⟩
      congr 1
      symm
      rw [List.filter_eq_self]
      intro x hx
      have := (List.findIdx?_eq_none_iff.1 hf) x hx
      simpa using this
  | some j =>
    have hj := (List.findIdx?_eq_some_iff_getElem.1 hf).1
    refine ⟨.map (es.eraseIdxIfInBounds j) cl, fun W hW => ?_, fun W hlt => ⟨?_⟩⟩
    · have h1' := hW.trans h1
      simp only [Builtin.delete_, Sem.run_bind, run_underlying ht, Result.andThen_ok, run_getObj_map W m es cl h1', run_checkKey_u64 W kt hk, run_findKey W kt hk k es l h2, hf, Option.bind_some, List.getElem?_eq_getElem hj, Option.map_some, MapKept.run_setObj_map _ h1', List.getElem?_toArray, List.getElem?_cons_zero, List.getElem?_cons_succ, Sem.run_pure]
      rfl
    · have hs : es.size = l.length := by have := congrArg List.length h2; simpa [kvs, kvOf] using this
      refine ⟨_, cl, by simp [setBlock, hlt], ?_, MapKept.stamped_erase h3 j⟩
      unfold kvs kvOf at h2 ⊢
      rw [← erase_idx l k hn j hf]
      have e1 : (es.eraseIdxIfInBounds j).toList = es.toList.eraseIdx j := by
        unfold Array.eraseIdxIfInBounds
        rw [dif_pos (by omega)]
        simp
      rw [e1, ChangeMaps.map_eraseIdx, ChangeMaps.map_eraseIdx, h2]

theorem run_clear_map (t kt e ty : TypeId) (ht : P.underlying t = some (.map kt e)) (m : Nat) (l : List (Int × Value)) (h : MapIs w m l) :
    ∃ ob, (∀ W : World, W.heap[m]? = w.heap[m]? → (Builtin.clear_ #[t] ty #[.map (some m)]).run P W = .ok (.tuple #[]) (setBlock W m ob)) ∧ (∀ W : World, m < W.heap.size → MapIs (setBlock W m ob) m []) := by
  obtain ⟨es, cl, h1, h2, h3⟩ := h.some_
  refine ⟨.map #[] cl, fun W hW => ?_, fun W hlt => ⟨#[], cl, by simp [setBlock, hlt], rfl, MapKept.stamped_empty cl⟩⟩
  have h1' := hW.trans h1
  simp only [Builtin.clear_, Sem.run_bind, run_underlying ht, Result.andThen_ok, run_getObj_map W m es cl h1', MapKept.run_setObj_map _ h1', List.getElem?_toArray, List.getElem?_cons_zero, Sem.run_pure]
  rfl
theorem MapIs.made : MapIs (w.alloc (.map #[] 0)) w.heap.size [] := ⟨#[], 0, (MapKept.heap_alloc w _).1, rfl, MapKept.stamped_empty 0⟩
end
end Go.Proofs.YtpkkjoiglemlgaaGreatDoor

/-
  Frames: 'only the blocks in F, and new ones, have turned'. And blocks that are known whole. No condition.
-/
namespace Go.Proofs.YtpkkjoiglemlgaaGreatDoor
set_option linter.unusedVariables false
open Go.ChangeShapes Go.WideShapes Go.ChangeAt Go.RowKit
open Go.ChangeMaps (setBlock)

/-- Of what was there only blocks in F have turned. -/
structure Chg (F : Nat → Prop) (w w' : World) : Prop where
  os : w'.os = w.os
  tape : w'.tape = w.tape
  output : w'.output = w.output
  size : w.heap.size ≤ w'.heap.size
  block : ∀ k, k < w.heap.size → ¬ F k → w'.heap[k]? = w.heap[k]?

/-- F, and what is new between two worlds. -/
def nw (F : Nat → Prop) (w w' : World) : Nat → Prop := fun k => F k ∨ (w.heap.size ≤ k ∧ k < w'.heap.size)
/-- All of F lies in the world. -/
def In (F : Nat → Prop) (w : World) : Prop := ∀ k, F k → k < w.heap.size
def Off (F G : Nat → Prop) : Prop := ∀ k, F k → G k → False

section
variable {F G : Nat → Prop} {a b c w w' : World}
theorem Off.symm (h : Off F G) : Off G F := fun k g f => h k f g
theorem Chg.refl (F : Nat → Prop) (w : World) : Chg F w w := ⟨rfl, rfl, rfl, Nat.le_refl _, fun _ _ _ => rfl⟩
theorem Chg.trans (h : Chg F a b) (k : Chg G b c) (hG : ∀ i, G i → F i ∨ a.heap.size ≤ i) : Chg F a c :=
  ⟨k.os.trans h.os, k.tape.trans h.tape, k.output.trans h.output, Nat.le_trans h.size k.size, fun i hi hn =>
    (k.block i (Nat.lt_of_lt_of_le hi h.size) (fun hg => by
      rcases hG i hg with h1 | h1
      · exact hn h1
      · omega)).trans (h.block i hi hn)⟩
theorem Chg.then_ (h : Chg F a b) (k : Chg (nw F a b) b c) : Chg F a c := h.trans k fun i hi => by
  rcases hi with h1 | h1
  · exact .inl h1
  · exact .inr h1.1
theorem Chg.mono (h : Chg F a b) (hF : ∀ i, F i → G i) : Chg G a b := ⟨h.os, h.tape, h.output, h.size, fun i hi hn => h.block i hi fun hf => hn (hF i hf)⟩
theorem Chg.drew (h : Chg F a w) : Chg F a w.drew := ⟨h.os, h.tape, h.output, h.size, h.block⟩
theorem Chg.drewN (h : Chg F a w) (n : Nat) : Chg F a (w.drewN n) := ⟨h.os, h.tape, h.output, h.size, h.block⟩
theorem Chg.alloc (h : Chg F a w) (o : Obj) : Chg F a (w.alloc o) :=
  ⟨h.os, h.tape, h.output, Nat.le_trans h.size (by simp), fun i hi hn => (Below.heap_alloc w o i (Nat.lt_of_lt_of_le hi h.size)).trans (h.block i hi hn)⟩
theorem Chg.setCell (h : Chg F a w) {p : Addr} (hp : F p.block ∨ a.heap.size ≤ p.block) (u : Value) : Chg F a (w.setCell p u) :=
  ⟨h.os, h.tape, h.output, by simpa [World.setCell] using h.size, fun i hi hn => (Below.heap_setCell w p u i (by
    rintro rfl
    rcases hp with hp | hp
    · exact hn hp
    · omega)).trans (h.block i hi hn)⟩
theorem heap_setBlock (w : World) (m : Nat) (o : Obj) (i : Nat) (h : i ≠ m) : (setBlock w m o).heap[i]? = w.heap[i]? := by
  simp only [setBlock, Array.getElem?_setIfInBounds]
  rw [if_neg (by omega)]
theorem heap_setBlock_at (w : World) (m : Nat) (o : Obj) (h : m < w.heap.size) : (setBlock w m o).heap[m]? = some o := by
  simp [setBlock, h]
theorem size_setBlock (w : World) (m : Nat) (o : Obj) : (setBlock w m o).heap.size = w.heap.size := by simp [setBlock]
theorem size_setCell (w : World) (p : Addr) (u : Value) : (w.setCell p u).heap.size = w.heap.size := by simp [World.setCell]
theorem cell_setBlock {m : Nat} (W : World) (o : Obj) (p : Addr) (h : p.block ≠ m) : (ChangeMaps.setBlock W m o).cell? p = W.cell? p := World.cell?_of_block (heap_setBlock W m o p.block h)
theorem frozen_setBlock {m : Nat} (W : World) (o : Obj) (p : Addr) (h : p.block ≠ m) : (ChangeMaps.setBlock W m o).frozen? p = W.frozen? p := World.frozen?_of_block (heap_setBlock W m o p.block h)
theorem Chg.setBlock (h : Chg F a w) {m : Nat} (hm : F m ∨ a.heap.size ≤ m) (o : Obj) : Chg F a (setBlock w m o) :=
  ⟨h.os, h.tape, h.output, by rw [size_setBlock]; exact h.size, fun i hi hn => (heap_setBlock w m o i (by
    rintro rfl
    rcases hm with hm | hm
    · exact hn hm
    · omega)).trans (h.block i hi hn)⟩
theorem Chg.of_below (h : Below a.heap.size a b) (F : Nat → Prop) : Chg F a b := ⟨h.os, h.tape, h.output, h.size, fun i hi _ => h.block i hi⟩
theorem Chg.next_ (h : Chg F a b) (k : Below b.heap.size b c) : Chg F a c := h.trans (Chg.of_below k fun _ => False) fun _ hf => hf.elim
theorem Chg.below {B : Nat} (h : Chg F a b) (hF : ∀ i, F i → B ≤ i) (hB : B ≤ a.heap.size) : Below B a b := ⟨h.os, h.tape, h.output, h.size, fun i hi => h.block i (by omega) fun hf => by have := hF i hf; omega⟩
theorem Chg.cell (h : Chg F a b) {p : Addr} (hp : p.block < a.heap.size) (hn : ¬ F p.block) : b.cell? p = a.cell? p := World.cell?_of_block (h.block p.block hp hn)
theorem Chg.frozen (h : Chg F a b) {p : Addr} (hp : p.block < a.heap.size) (hn : ¬ F p.block) : b.frozen? p = a.frozen? p := World.frozen?_of_block (h.block p.block hp hn)
/-- What lies off F stays. -/
theorem Chg.off (h : Chg F a b) (hG : In G a) (ho : Off F G) : ∀ k, G k → b.heap[k]? = a.heap[k]? := fun k hk => h.block k (hG k hk) fun hf => ho k hf hk
theorem In.mono (h : In F a) (hs : a.heap.size ≤ b.heap.size) : In F b := fun k hk => Nat.lt_of_lt_of_le (h k hk) hs
theorem In.nw (h : In F a) (hs : a.heap.size ≤ b.heap.size) : In (nw F a b) b := fun k hk => by
  rcases hk with h1 | h1
  · exact Nat.lt_of_lt_of_le (h k h1) hs
  · exact h1.2
theorem Off.nw (h : Off F G) (hG : In G a) : Off (nw F a b) G := fun k hk hg => by
  rcases hk with h1 | h1
  · exact h k h1 hg
  · have := hG k hg
    omega
end

theorem Blk.keep {w w' : World} {g : Nat} {t : TypeId} {cs : Array Value} (h : Blk w g t cs) (hk : w'.heap[g]? = w.heap[g]?) : Blk w' g t cs := hk.trans h
theorem Blk.eq_cs {w : World} {g : Nat} {t : TypeId} {cs cs' : Array Value} (h : Blk w g t cs) (e : cs = cs') : Blk w g t cs' := e ▸ h
theorem Blk.setb {w : World} {g : Nat} {t : TypeId} {cs : Array Value} (h : Blk w g t cs) {m : Nat} (hm : g ≠ m) (o : Obj) : Blk (setBlock w m o) g t cs := (heap_setBlock w m o g hm).trans h
theorem MapIs.ne_blk {w : World} {m g : Nat} {l : List (Int × Value)} {t : TypeId} {cs : Array Value} (h : MapIs w m l) (hb : Blk w g t cs) : m ≠ g := by
  rintro rfl
  obtain ⟨es, c, h1, _⟩ := h.some_
  unfold Blk at hb
  rw [h1] at hb
  cases hb
end Go.Proofs.YtpkkjoiglemlgaaGreatDoor

/-
  Frames, slot by slot. No condition.
-/
namespace Go.Proofs.YtpkkjoiglemlgaaGreatDoor
set_option linter.unusedVariables false
theorem act_eq {t t' : Array Value} {d : List Deferred} (h : t = t') : (Act.mk t d) = Act.mk t' d := by rw [h]
theorem slots_eq {l m : List Value} (h : l = m) : List.toArray l = List.toArray m := by rw [h]
theorem cons_eq {a b : Value} {l m : List Value} (h : a = b) (k : l = m) : a :: l = b :: m := by rw [h, k]
theorem nx {B : Nat} {a b c : World} (h : RowKit.Below B a b) (hB : B ≤ a.heap.size) (k : RowKit.Below b.heap.size b c) : RowKit.Below B a c := h.trans (k.mono (Nat.le_trans hB h.size))
end Go.Proofs.YtpkkjoiglemlgaaGreatDoor
