/-
  The walk over the law that a key that was put on a shelf is found there (layer 23). No condition.
-/
import Derived.Test.YtpldnbdcpihjcaaFindL
import Derived.Deep.CutRange
import Derived.Deep.RegionHeld3
import Derived.StillTailTactics
namespace Go.Proofs.Ytpldnbdcpihjcaa
set_option linter.unusedVariables false
open Go.ChangeShapes Go.WideShapes Go.ChangeAt Go.RowKit
open Go.ChangeMaps (setBlock)

theorem made_ints (n : Nat) : madeCells (Value.int .i64 0).cells (n * 1) = ((List.replicate n (0 : Int)).map (Value.int .i64)).toArray := by
  apply Array.ext'
  apply List.ext_getElem?
  intro i
  by_cases h : i < n
  · have e : i % 1 = 0 := Nat.mod_one i
    simp [madeCells, Value.cells, h, e]
  · simp [madeCells, Value.cells, h]
theorem made_row (n : Nat) : Array.replicate n (Value.int .i64 0) = ((List.replicate n (0 : Int)).map (Value.int .i64)).toArray := by simp
theorem set_ints (l : List Int) (k : Nat) (v : Int) : ((l.map (Value.int .i64)).toArray).setIfInBounds k (.int .i64 v) = ((l.set k v).map (Value.int .i64)).toArray := by simp [List.map_set]
theorem OwnK.put {w0 w : World} {hb : Nat} {S : PHeap} {F : Nat → Prop} {K : List (Nat × Obj)} {sb : Nat} {cs : Array Value} {t : TypeId} (h : OwnK w0 hb S F ((sb, .cells cs t) :: K) w) (hK : ∀ x ∈ K, x.1 ≠ sb) (h0 : w0.heap.size ≤ sb) (k : Nat) (v : Value) :
    OwnK w0 hb S F ((sb, .cells (cs.setIfInBounds k v) t) :: K) (w.setCell ⟨sb, k, none⟩ v) := by
  have hsb := h.keep _ (List.mem_cons_self ..)
  have far : ∀ j, j ≠ sb → (w.setCell ⟨sb, k, none⟩ v).heap[j]? = w.heap[j]? := fun j hj => Below.heap_setCell w ⟨sb, k, none⟩ v j (fun e => hj e)
  refine ⟨⟨h.own.heap.keep (by simp [World.setCell]) fun j hj => far j (fun e => hsb.2 (e ▸ hj)), h.own.new, h.own.below.setCell h0 _⟩, fun x hx => ?_⟩
  rcases List.mem_cons.1 hx with rfl | hx
  · exact ⟨(show Blk w sb t cs from hsb.1).set_ k v, hsb.2⟩
  · obtain ⟨k1, k2⟩ := h.keep x (List.mem_cons_of_mem _ hx)
    exact ⟨(far _ (hK x hx)).trans k1, k2⟩
/-- What is known of the keys so far. -/
structure FK (ks : List ByteArray) (l : List Int) (k : Nat) (c : PCfg) (tx : Nat → Option ByteArray) : Prop where
  each : ∀ j, j < k → ∃ t s, ks[j]? = some t ∧ l[j]? = some s ∧ ((0 ≤ s ∧ (lookP t (plN c t) tx c.shelves.toNat 0).1 = 1 ∧ (lookP t (plN c t) tx c.shelves.toNat 0).2.1 = s) ∨ (s = -1 ∧ (lookP t (plN c t) tx c.shelves.toNat 0).1 = 3))
  put : ∀ p u, tx p = some u → ∃ j, j < k ∧ ks[j]? = some u ∧ ∃ s, l[j]? = some s ∧ 0 ≤ s
theorem FK.step {ks : List ByteArray} {l : List Int} {k : Nat} {c : PCfg} {tx tx' : Nat → Option ByteArray} (h : FK ks l k c tx) {t : ByteArray} (hk : ks[k]? = some t) (hl : k < l.length) (he : ExtT tx tx') (s : Int)
    (hn : ∀ p u, tx' p = some u → tx p = some u ∨ (u = t ∧ 0 ≤ s)) (hs : (0 ≤ s ∧ (lookP t (plN c t) tx' c.shelves.toNat 0).1 = 1 ∧ (lookP t (plN c t) tx' c.shelves.toNat 0).2.1 = s) ∨ (s = -1 ∧ (lookP t (plN c t) tx' c.shelves.toNat 0).1 = 3)) : FK ks (l.set k s) (k + 1) c tx' := by
  have old : ∀ j, j < k → (l.set k s)[j]? = l[j]? := fun j hj => List.getElem?_set_ne (by omega)
  have new : (l.set k s)[k]? = some s := List.getElem?_set_self hl
  refine ⟨fun j hj => ?_, fun p u hu => ?_⟩
  · by_cases hjk : j = k
    · subst hjk
      exact ⟨t, s, hk, new, hs⟩
    · obtain ⟨t', s', h1, h2, h3⟩ := h.each j (by omega)
      refine ⟨t', s', h1, (old j (by omega)).trans h2, ?_⟩
      have hne : (lookP t' (plN c t') tx c.shelves.toNat 0).1 ≠ 2 := by rcases h3 with ⟨_, h4, _⟩ | ⟨_, h4⟩ <;> rw [h4] <;> decide
      rw [look_ext he _ _ hne]
      exact h3
  · rcases hn p u hu with h1 | ⟨rfl, h1⟩
    · obtain ⟨j, h2, h3, s', h4, h5⟩ := h.put p u h1
      exact ⟨j, by omega, h3, s', (old j h2).trans h4, h5⟩
    · exact ⟨k, by omega, hk, s, new, h1⟩
/-- Between two rounds of the first loop. -/
def FF1 (w w1 : World) (len : Nat) (ks : List ByteArray) (c : PCfg) (sb hb : Nat) (pv iv : Value) (wr : World) : Prop :=
  ∃ (k : Nat) (S : PHeap) (F : Nat → Prop) (tx : Nat → Option ByteArray) (l : List Int), k ≤ len ∧ iv = .int .i64 k ∧ pv = .int .i64 (cntT tx c.shelves.toNat : Nat) ∧ OwnK w1 hb S F ((sb, Obj.cells (l.map (Value.int .i64)).toArray 3) :: [(w.heap.size, Obj.cells #[.int .i64 c.cap, .int .i64 c.pins, .int .i64 c.shelves, .int .i64 c.queue, .int .i64 c.watchers, .int .u64 c.seed] 24)]) wr ∧ Shelved S c tx ∧ S.faults = 0 ∧ S.last ≤ 1 + k ∧ l.length = len ∧ FK ks l k c tx ∧ (∀ j t, j < k → ks[j]? = some t → t.size ≤ 100)
/-- Between two rounds of the second loop. -/
def FF2 (w w1 : World) (len : Nat) (ks : List ByteArray) (other : ByteArray) (c : PCfg) (l : List Int) (S : PHeap) (sb hb : Nat) (tv iv : Value) (wr : World) : Prop :=
  ∃ (k : Nat) (F : Nat → Prop) (th : Bool), k ≤ len ∧ iv = .int .i64 k ∧ tv = .bool th ∧ OwnK w1 hb S F ((sb, Obj.cells (l.map (Value.int .i64)).toArray 3) :: [(w.heap.size, Obj.cells #[.int .i64 c.cap, .int .i64 c.pins, .int .i64 c.shelves, .int .i64 c.queue, .int .i64 c.watchers, .int .u64 c.seed] 24)]) wr ∧ (th = true ↔ ∃ j, j < k ∧ ks[j]? = some other ∧ ∃ s, l[j]? = some s ∧ 0 ≤ s)
def QutP (w1 : World) (c : PCfg) (hb : Nat) (K : List (Nat × Obj)) (S : PHeap) (tx : Nat → Option ByteArray) (wx : World) : Prop :=
  ∃ (S' : PHeap) (F' : Nat → Prop), OwnK w1 hb S' F' K wx ∧ Shelved S' c tx ∧ S'.faults = 0 ∧ S'.last = S.last + 1
set_option maxRecDepth 100000 in
set_option maxHeartbeats 40000000 in
theorem walkFinds (other : ByteArray) (A : Option Addr) (len cap : Nat) (ks : List ByteArray) (hlen : ks.length = len) (hmax : len ≤ maxLen) (c : PCfg) (w : World) (hr : Reads w w.heap.size 1 A len (ks.map Value.string)) :
    Calls Try.prog 4 #[c.val, .slice A len cap, .string other] w fun e w' => e = .returned (.bool true) ∧ Below w.heap.size w w' := by
  obtain ⟨i0, hi, hz0', hz1', hz2'⟩ : ∃ i, Try.prog.info? 3 = some i ∧ i.zero = some (.int .i64 0) ∧ i.size = 1 ∧ i.bytes = 8 := ⟨_, rfl, rfl, rfl, rfl⟩
  have hCV : c.val = .agg #[.int .i64 c.cap, .int .i64 c.pins, .int .i64 c.shelves, .int .i64 c.queue, .int .i64 c.watchers, .int .u64 c.seed] := rfl
  have hRR := fun W => right_cfg c W
  have hz : Below w.heap.size w (w.alloc (.cells #[.int .i64 c.cap, .int .i64 c.pins, .int .i64 c.shelves, .int .i64 c.queue, .int .i64 c.watchers, .int .u64 c.seed] 24)) := (Below.refl _ _).alloc (Nat.le_refl _) _
  have B0 := Blk.new w 24 #[.int .i64 c.cap, .int .i64 c.pins, .int .i64 c.shelves, .int .i64 c.queue, .int .i64 c.watchers, .int .u64 c.seed]
  replace hmax : len ≤ 9223372036854775807 := by unfold maxLen at hmax; omega
  have hNw : ∀ (t : ByteArray), t.size ≤ 100 → ∀ W, _ := fun t ht W => findNew_any c t (by omega) W
  have hFd : c.Right → ∀ W, _ := fun h W => field_any c h W
  have hPk : ∀ (h : c.Right) (p : Nat) (hp : (p : Int) < c.shelves), ∀ W, _ := fun h p hp W => planKey_any c h (p : Int) ⟨by omega, hp⟩ W
  rw [hCV] at hNw hRR hFd hPk ⊢
  clear hCV
  replace hNw := Lib.hid hNw
  replace hFd := Lib.hid hFd
  replace hPk := Lib.hid hPk
  replace hr := Lib.hid hr
  replace hz := Lib.hid hz
  replace B0 := Lib.hid B0
  have hbad : (c.right = false) ∨ (c.right = true ∧ 70 < len) ∨ (c.right = true ∧ ¬ 70 < len ∧ 100 < other.size) ∨ (c.right = true ∧ ¬ 70 < len ∧ ¬ 100 < other.size) := by
    cases c.right <;> simp <;> omega
  rcases hbad with h1 | ⟨h1, h2⟩ | ⟨h1, h2, h3⟩ | ⟨h1, h2, h3⟩
  · rw [h1] at hRR
    replace hRR := Lib.hid hRR
    replace h1 := Lib.hid h1
    as_aux_lemma =>
      go_enter Try.func4, Try.ntmps4
      go_wp2_with fail
      refine (hRR.out _).mono ?_; rintro e w1 ⟨rfl, hb1⟩
      go_wp2_with fail
      refine (awake23 _).mono ?_; rintro e w7 ⟨rfl, hb7⟩
      go_wp2_with fail
      go_ret
      have h1 := nx hz.out (Nat.le_refl _) hb1
      exact ⟨rfl, h1.trans (hb7.mono h1.size)⟩
  · rw [h1] at hRR
    have d1 : decide ((70 : Int) < (len : Int)) = true := by simp; omega
    replace hRR := Lib.hid hRR
    replace h1 := Lib.hid h1
    as_aux_lemma =>
      go_enter Try.func4, Try.ntmps4
      go_wp2_with fail
      refine (hRR.out _).mono ?_; rintro e w1 ⟨rfl, hb1⟩
      go_wp2_with fail
      refine (awake23 _).mono ?_; rintro e w7 ⟨rfl, hb7⟩
      go_wp2_with fail
      go_ret
      have h1 := nx hz.out (Nat.le_refl _) hb1
      exact ⟨rfl, h1.trans (hb7.mono h1.size)⟩
  · rw [h1] at hRR
    have d1 : decide ((70 : Int) < (len : Int)) = false := by simp; omega
    have d2 : decide ((100 : Int) < (other.size : Int)) = true := by simp; omega
    replace hRR := Lib.hid hRR
    replace h1 := Lib.hid h1
    as_aux_lemma =>
      go_enter Try.func4, Try.ntmps4
      go_wp2_with fail
      refine (hRR.out _).mono ?_; rintro e w1 ⟨rfl, hb1⟩
      go_wp2_with fail
      refine (awake23 _).mono ?_; rintro e w7 ⟨rfl, hb7⟩
      go_wp2_with fail
      go_ret
      have h1 := nx hz.out (Nat.le_refl _) hb1
      exact ⟨rfl, h1.trans (hb7.mono h1.size)⟩
  rw [h1] at hRR
  have hR := (PCfg.right_iff c).1 h1
  have hsh := hR.shelves
  have d1 : decide ((70 : Int) < (len : Int)) = false := by simp; omega
  have d2 : decide ((100 : Int) < (other.size : Int)) = false := by simp; omega
  have hl70 : len ≤ 70 := by omega
  have hmk := fun W => run_make_rowN (P := Try.prog) 50 3 i0 (.int .i64 0) Try.underlying50 hi hz0' .i64 .i64 len len (Nat.le_refl _) (by rw [hz2']; omega) (by omega) W
  rw [hz1', made_ints, ← made_row] at hmk
  clear hi hz0' hz1' hz2'
  have hNo := hNw.out other (by omega)
  replace hNo := Lib.hid hNo
  replace h1 := Lib.hid h1
  replace h2 := Lib.hid h2
  replace h3 := Lib.hid h3
  replace hRR := Lib.hid hRR
  go_enter Try.func4, Try.ntmps4
  go_wp2_with fail
  refine (hRR.out _).mono ?_; rintro e w1 ⟨rfl, hb1⟩
  have C1 := B0.out.below hb1 (by simp)
  have hz1 := nx hz.out (Nat.le_refl _) hb1
  have c0 := C1.cell 0
  have c1 := C1.cell 1
  have c2 := C1.cell 2
  have c3 := C1.cell 3
  have c4 := C1.cell 4
  have c5 := C1.cell 5
  clear hb1
  replace C1 := Lib.hid C1
  replace hz1 := Lib.hid hz1
  go_wp2_with fail
  refine (hFd.out hR _).mono ?_; rintro e w2 ⟨hb, r, rfl, s2⟩
  obtain ⟨F2, o2⟩ := Own.of_sess s2
  have hF2 := o2.heap.own
  have C2 := C1.out.below s2.below C1.out.lt
  have hw1 := C1.out.lt
  have hw12 := o2.below.size
  have hOK : OwnK w1 hb (fieldS c r) F2 ((w2.heap.size, Obj.cells (Array.replicate len (Value.int .i64 0)) 3) :: [(w.heap.size, Obj.cells #[.int .i64 c.cap, .int .i64 c.pins, .int .i64 c.shelves, .int .i64 c.queue, .int .i64 c.watchers, .int .u64 c.seed] 24)]) (w2.alloc (.cells (Array.replicate len (Value.int .i64 0)) 3)) := OwnK.add ⟨o2, fun x hx => by
    simp only [List.mem_cons, List.not_mem_nil, or_false] at hx
    subst hx
    exact ⟨C2, fun h => by have := o2.new _ h; omega⟩⟩ _
  clear s2 c0 c1 c2 c3 c4 c5 o2 C2
  replace hOK := Lib.hid hOK
  go_wp2_with fail
  have hsbw : w.heap.size ≠ w2.heap.size := by omega
  have hsb1 : w1.heap.size ≤ w2.heap.size := hw12
  generalize (w2.alloc (.cells (Array.replicate len (Value.int .i64 0)) 3)) = w3 at *
  replace hOK := hOK.out
  rw [made_row] at hOK
  replace hOK := Lib.hid hOK
  generalize w2.heap.size = sb at *
  go_loopw [8, 10] (fun pv iv wr => FF1 w w1 len ks c sb hb pv iv wr) (fun _ i _ => len + 1 - (intOf i).toNat)
  case atStart => exact ⟨0, fieldS c r, F2, fun _ => none, List.replicate len 0, Nat.zero_le _, rfl, by rw [show cntT (fun _ => none) c.shelves.toNat = 0 from by generalize c.shelves.toNat = n; induction n with | zero => rfl | succ n ih => (show cntT _ n + 0 = 0; rw [ih])]; rfl, hOK.out, field_shelved c hR r, rfl, by show (1 : Int) ≤ _; decide, List.length_replicate .., ⟨fun j hj => by omega, fun p u hu => by cases hu⟩, fun j t hj => by omega⟩
  case round =>
    clear hOK
    obtain ⟨k, S, F, tx, l, hk, rfl, rfl, o, hS, hft, hla, hll, hfk, hsm⟩ := hrel
    by_cases hlt : k < len
    · have d3 : decide ((k : Int) < (len : Int)) = true := by simp; omega
      have i1 : (0 : Int) ≤ (k : Int) := by omega
      have i2 : (k : Int) < (len : Int) := by omega
      obtain ⟨ad, u, rfl, hadb, hu, hcell⟩ := hr.out.at_ hlt
      obtain ⟨t, ht, rfl⟩ : ∃ t, ks[k]? = some t ∧ Value.string t = u := by simpa using hu
      have hbw : ∀ (W : World) (S : PHeap) (F : Nat → Prop) (K : List (Nat × Obj)), OwnK w1 hb S F K W → Below w.heap.size w W := fun W S F K h => hz1.out.trans (h.own.below.mono hz1.out.size)
      have p0 := keepc (hbw _ _ _ _ o) hadb hcell
      have mc : (w.heap.size, Obj.cells #[.int .i64 c.cap, .int .i64 c.pins, .int .i64 c.shelves, .int .i64 c.queue, .int .i64 c.watchers, .int .u64 c.seed] 24) ∈ ((sb, Obj.cells (l.map (Value.int .i64)).toArray 3) :: [(w.heap.size, Obj.cells #[.int .i64 c.cap, .int .i64 c.pins, .int .i64 c.shelves, .int .i64 c.queue, .int .i64 c.watchers, .int .u64 c.seed] 24)]) := by simp
      have hs1 := o.lt mc
      have hsbl := o.lt (List.mem_cons_self ..)
      simp only at hs1 hsbl
      clear hu
      by_cases hbig : 100 < t.size
      · have d4 : decide ((100 : Int) < (t.size : Int)) = true := by simp; omega
        have hw' := hbw _ _ _ _ o
        replace o := Lib.hid o
        replace hcell := Lib.hid hcell
        replace ht := Lib.hid ht
        replace hfk := Lib.hid hfk
        replace hll := Lib.hid hll
        replace hsm := Lib.hid hsm
        as_aux_lemma =>
          go_wp2_with fail
          refine (awake23 _).mono ?_; rintro e w7 ⟨rfl, hb7⟩
          go_wp2_with fail
          go_ret
          exact ⟨rfl, Below.next_ hw' hb7⟩
      have d4 : decide ((100 : Int) < (t.size : Int)) = false := by simp; omega
      have hNt := hNw.out t (by omega)
      have hsm2 : ∀ j u, j < k + 1 → ks[j]? = some u → u.size ≤ 100 := fun j u hj hu => by
        by_cases hjk : j = k
        · subst hjk
          rw [ht] at hu
          injection hu with hu
          subst hu
          omega
        · exact hsm j u (by omega) hu
      replace hsm2 := Lib.hid hsm2
      replace hsm := Lib.hid hsm
      have b0 := o.blk mc
      have c0 := b0.cell 0
      have c1 := b0.cell 1
      have c2 := b0.cell 2
      have c3 := b0.cell 3
      have c4 := b0.cell 4
      have c5 := b0.cell 5
      have hnew := o.own.below.size
      clear b0
      replace hbw := Lib.hid hbw
      replace mc := Lib.hid mc
      replace hNt := Lib.hid hNt
      replace o := Lib.hid o
      replace ht := Lib.hid ht
      replace hS := Lib.hid hS
      replace hfk := Lib.hid hfk
      replace hll := Lib.hid hll
      replace hcell := Lib.hid hcell
      go_wp2_with fail
      go_still_tail 5, (by kernel_rfl)
      change wpList _ _ _ _ _ wr.drew
      go_wp2_with fail
      refine (hNt.out _).mono ?_; rintro e w6 ⟨b, rfl, hN6, hbb6, hb6'⟩
      have hbb : wr.heap.size ≤ b := hbb6
      have hb6 : Below wr.heap.size wr w6 := (Below.refl _ _).drew.trans hb6'
      have o6 := o.out.below hb6
      have hF := o.out.own.heap.own
      have hFb : ¬ F b := fun h => by have := hF b h; omega
      have hA := falone hR o6.own hN6 hFb (by omega) hS.out hft (by omega)
      have hs6 := hb6.size
      clear hb6' c0 c1 c2 c3 c4 c5 hb6
      replace hA := Lib.hid hA
      replace hN6 := Lib.hid hN6
      replace o6 := Lib.hid o6
      go_wp2_with fail
      refine (hA.out).mono ?_; rintro e w7 ⟨s7, F7, rfl, hL⟩
      have hres := findResult_any hL.lies
      rw [hL.res] at hres
      have o7 := o6.out.looked hL (fun x hx => by
        simp only [List.mem_cons, List.not_mem_nil, or_false] at hx
        rcases hx with rfl | rfl
        · show sb ≠ b; omega
        · show w.heap.size ≠ b; omega)
      have hs7 := hL.chg.size
      have hLk := look_kind (key := t) (pl := plN c t) (tx := tx) c.shelves.toNat 0
      have hLp := look_put (key := t) (pl := plN c t) (tx := tx) c.shelves.toNat 0
      clear hL
      generalize hLe : lookP t (plN c t) tx c.shelves.toNat 0 = L at *
      obtain ⟨lk, ls, ln⟩ := L
      simp only at hres hLk hLp
      have hcase : (lk = 1 ∧ ∃ p : Nat, ls = p) ∨ (lk = 3 ∧ ls = 0 ∧ cntT tx c.shelves.toNat = c.shelves.toNat) ∨ (lk = 2 ∧ ∃ p : Nat, ls = p ∧ (p : Int) < c.shelves ∧ tx p = none ∧ (lookP t (plN c t) (putT tx p t) c.shelves.toNat 0).1 = 1 ∧ (lookP t (plN c t) (putT tx p t) c.shelves.toNat 0).2.1 = p) := by
        rcases hLk with ⟨h1, p, h2, _⟩ | h1 | ⟨h1, h2, h3⟩
        · exact .inl ⟨h1, p, h2⟩
        · obtain ⟨p, h2, h3, ⟨i, h5⟩, h4⟩ := hLp h1
          exact .inr (.inr ⟨h1, p, h2, by rw [h5]; exact (plN_eq hR t i).2, h3, by rw [h4], by rw [h4]⟩)
        · refine .inr (.inl ⟨h1, h2, cnt_full tx _ fun j hj => ?_⟩)
          obtain ⟨i, h4, h5⟩ := pl_cover hR t j (by omega)
          obtain ⟨u, hu⟩ := h3 i (by omega)
          rw [Nat.zero_add, h5] at hu
          exact ⟨u, hu⟩
      replace hLe := Lib.hid hLe
      clear hLk hLp
      replace hres := Lib.hid hres
      replace o7 := Lib.hid o7
      replace hcase := Lib.hid hcase
      go_wp2_with fail
      refine (hres.out).mono ?_; rintro e w8 ⟨rfl, hb8⟩
      have o8 := (o7.out.below hb8).below (Below.more_ (Below.refl _ _) (.cells #[.int .i64 lk, .int .i64 ls] 35))
      have R8 := Blk.new w8 35 #[.int .i64 lk, .int .i64 ls]
      have C8 := o8.blk mc.out
      have S8 := o8.blk (List.mem_cons_self ..)
      have hsf : sb ≠ w8.heap.size := by have := (o7.out.below hb8).lt (List.mem_cons_self ..); simp only at this; omega
      have hsf2 : ¬ w8.heap.size = sb := fun e => hsf e.symm
      have hsf3 : ¬ sb = w8.heap.size := hsf
      have hcf : w.heap.size ≠ w8.heap.size := by have := (o7.out.below hb8).lt mc.out; simp only at this; omega
      have hff : ¬ F7 w8.heap.size := fun h => by have := (o7.out.below hb8).own.heap.own _ h; omega
      have q0 := R8.cell 0
      have q1 := R8.cell 1
      have f8 := S8.frozen k
      obtain ⟨s0, hs0⟩ : ∃ s0, l[k]? = some s0 := ⟨_, List.getElem?_eq_getElem (by rw [hll.out]; exact hlt)⟩
      have s8 : (w8.alloc (.cells #[.int .i64 lk, .int .i64 ls] 35)).cell? ⟨sb, k, none⟩ = some (.int .i64 s0) := by rw [S8.cell k]; simp [hs0]
      replace hs0 := Lib.hid hs0
      have c2 := C8.cell 2
      have p8 := keepc (hbw.out _ _ _ _ o8) hadb hcell.out
      have hls8 : sb < (w8.alloc (.cells #[.int .i64 lk, .int .i64 ls] 35)).heap.size := S8.lt
      have o9 := o8.put (by simp; omega) hsb1 k (.int .i64 (-1))
      rw [set_ints] at o9
      have R9 : Blk ((w8.alloc (.cells #[.int .i64 lk, .int .i64 ls] 35)).setCell ⟨sb, k, none⟩ (.int .i64 (-1))) w8.heap.size 35 #[.int .i64 lk, .int .i64 ls] := R8.keep (Below.heap_setCell _ _ _ _ (fun e => hsf e.symm))
      have R10 : ∀ v, Blk (((w8.alloc (.cells #[.int .i64 lk, .int .i64 ls] 35)).setCell ⟨sb, k, none⟩ (.int .i64 (-1))).setCell ⟨sb, k, none⟩ v) w8.heap.size 35 #[.int .i64 lk, .int .i64 ls] := fun v => R9.keep (Below.heap_setCell _ _ _ _ (fun e => hsf e.symm))
      have x0 := R9.cell 0
      have x1 := R9.cell 1
      have y0 := fun v => (R10 v).cell 0
      have y1 := fun v => (R10 v).cell 1
      replace R10 := Lib.hid R10
      replace R9 := Lib.hid R9
      clear hb8 C8 S8 p0
      replace o8 := Lib.hid o8
      replace o9 := Lib.hid o9
      replace R8 := Lib.hid R8
      have hFk := fun (tx' : Nat → Option ByteArray) (he : ExtT tx tx') s h1 h2 => hfk.out.step ht.out (by rw [hll.out]; exact hlt) he s h1 h2
      replace hFk := Lib.hid hFk
      have hl2 : ∀ s, (l.set k s).length = len := fun s => by rw [List.length_set]; exact hll.out
      replace hl2 := Lib.hid hl2
      rcases hcase.out with ⟨rfl, p, rfl⟩ | ⟨rfl, rfl, hfull⟩ | ⟨rfl, p, rfl, hpl, htp, hp1, hp2⟩
      · as_aux_lemma =>
          have S9 := o9.out.blk (List.mem_cons_self ..)
          have f9 := S9.frozen k
          have oA := o9.out.put (by simp; omega) hsb1 k (.int .i64 (p : Int))
          rw [set_ints, List.set_set] at oA
          clear S9
          replace oA := Lib.hid oA
          go_wp2_with fail
          go_roundw
          case rel => first | exact ⟨k + 1, S, _, tx, _, by omega, by go_num, rfl, oA.out, hS.out, hft, by omega, hl2.out _, hFk.out tx (fun _ _ h => h) p (fun _ _ h => .inl h) (.inl ⟨by omega, by rw [hLe.out], by rw [hLe.out]⟩), hsm2.out⟩ | ((repeat apply Exists.intro); refine ⟨?rr, ?ff⟩; (case ff => first | exact rfl | (apply act_eq; apply slots_eq; repeat' (first | apply cons_eq | exact rfl | (apply congrArg Value.bool; first | (simp; done) | (simp; omega)) | (simp [*]; done)))); (case rr => exact ⟨k + 1, S, _, tx, _, by omega, by go_num, rfl, oA.out, hS.out, hft, by omega, hl2.out _, hFk.out tx (fun _ _ h => h) p (fun _ _ h => .inl h) (.inl ⟨by omega, by rw [hLe.out], by rw [hLe.out]⟩), hsm2.out⟩))
          case measure => simp [intOf]; omega
      · as_aux_lemma =>
          have hpe : (((cntT tx c.shelves.toNat : Nat) : Int) == c.shelves) = true := by rw [hfull]; simp; omega
          replace hfull := Lib.hid hfull
          go_wp2_with fail
          go_roundw
          case rel => first | exact ⟨k + 1, S, _, tx, _, by omega, by go_num, rfl, o9.out, hS.out, hft, by omega, hl2.out _, hFk.out tx (fun _ _ h => h) (-1) (fun _ _ h => .inl h) (.inr ⟨rfl, by rw [hLe.out]⟩), hsm2.out⟩ | ((repeat apply Exists.intro); refine ⟨?rr, ?ff⟩; (case ff => first | exact rfl | (apply act_eq; apply slots_eq; repeat' (first | apply cons_eq | exact rfl | (apply congrArg Value.bool; first | (simp; done) | (simp; omega)) | (simp [*]; done)))); (case rr => exact ⟨k + 1, S, _, tx, _, by omega, by go_num, rfl, o9.out, hS.out, hft, by omega, hl2.out _, hFk.out tx (fun _ _ h => h) (-1) (fun _ _ h => .inl h) (.inr ⟨rfl, by rw [hLe.out]⟩), hsm2.out⟩))
          case measure => simp [intOf]; omega
      · have hPp := hPk.out hR p hpl
        rw [show 3 + c.pins + c.cap + 2 * (p : Int) = ((kcell c p : Nat) : Int) by rw [kcell_eq hR]] at hPp
        obtain ⟨v0, hv0, hv1, _⟩ := hS.out.at_ p hpl
        rw [hv1 htp] at hv0
        have hput := hS.out.put p hpl
        generalize hkcp : kcell c p = kp at *
        have hMk : ∀ W F K, OwnK w1 hb S F K W → Calls Try.prog 25 #[.pointer (some ⟨hb, 0, none⟩), .int .i64 0, .string t] W fun e w' => e = .returned (.int .u64 (S.last + 1)) ∧ ∃ r, OwnK w1 hb (S.more r t) (nw F W w') K w' := fun W F K h => (make_more h.own.heap t (by omega)).mono fun e w' ⟨he, r, ht⟩ => ⟨he, r, h.turned ht⟩
        have hSt : ∀ W F K r, OwnK w1 hb (S.more r t) F K W → Calls Try.prog 23 #[.pointer (some ⟨hb, 0, none⟩), .int .u64 1, .int .i64 kp, .int .u64 (S.last + 1)] W fun e w' => e = .returned (.int .i64 0) ∧ ∃ F', OwnK w1 hb ((S.more r t).set 1 kp (S.last + 1)) F' K w' := fun W F K r h => (ctl_store h.own.heap (hv0.more r t) (S.last + 1) (by have := hS.out.one; omega)).mono fun e w' ⟨he, ht⟩ => ⟨he, _, h.turned ht⟩
        have hcn : cntT (putT tx p t) c.shelves.toNat = cntT tx c.shelves.toNat + 1 := cnt_put htp t _ (by omega)
        have hcl := cnt_le tx c.shelves.toNat
        have hcw : IntKind.i64.wrap (((cntT tx c.shelves.toNat : Nat) : Int) + 1) = ((cntT (putT tx p t) c.shelves.toNat : Nat) : Int) := by rw [hcn]; rw [IntWalk.i64_in _ (by omega)]; omega
        have hfin := hFk.out (putT tx p t) (put_ext htp t) p (fun q u h => by
          unfold putT at h
          by_cases hq : q = p
          · rw [if_pos hq] at h; injection h with h; exact .inr ⟨h.symm, by omega⟩
          · rw [if_neg hq] at h; exact .inl h) (.inl ⟨by omega, hp1, hp2⟩)
        have S9 := o9.out.blk (List.mem_cons_self ..)
        have f9 := S9.frozen k
        have oA := (o9.out.put (by simp; omega) hsb1 k (.int .i64 (p : Int)))
        rw [set_ints, List.set_set] at oA
        have RA : Blk (((w8.alloc (.cells #[.int .i64 2, .int .i64 (p : Int)] 35)).setCell ⟨sb, k, none⟩ (.int .i64 (-1))).setCell ⟨sb, k, none⟩ (.int .i64 (p : Int))) w8.heap.size 35 #[.int .i64 2, .int .i64 (p : Int)] := R10.out _
        have CA := oA.blk (List.mem_cons_of_mem _ (List.mem_singleton.2 rfl))
        have pA := keepc (hbw.out _ _ _ _ oA) hadb hcell.out
        have oB : OwnK w1 hb S F7 ((w8.heap.size, Obj.cells #[.int .i64 2, .int .i64 (p : Int)] 35) :: (sb, Obj.cells ((l.set k (p : Int)).map (Value.int .i64)).toArray 3) :: [(w.heap.size, Obj.cells #[.int .i64 c.cap, .int .i64 c.pins, .int .i64 c.shelves, .int .i64 c.queue, .int .i64 c.watchers, .int .u64 c.seed] 24)]) (((w8.alloc (.cells #[.int .i64 2, .int .i64 (p : Int)] 35)).setCell ⟨sb, k, none⟩ (.int .i64 (-1))).setCell ⟨sb, k, none⟩ (.int .i64 (p : Int))) := ⟨oA.own, fun x hx => by
          rcases List.mem_cons.1 hx with rfl | hx
          · exact ⟨RA, hff⟩
          · exact oA.keep x hx⟩
        have g1 := RA.cell 1
        have hK8 : ∀ W S F, OwnK w1 hb S F ((w8.heap.size, Obj.cells #[.int .i64 2, .int .i64 (p : Int)] 35) :: (sb, Obj.cells ((l.set k (p : Int)).map (Value.int .i64)).toArray 3) :: [(w.heap.size, Obj.cells #[.int .i64 c.cap, .int .i64 c.pins, .int .i64 c.shelves, .int .i64 c.queue, .int .i64 c.watchers, .int .u64 c.seed] 24)]) W → W.cell? ⟨w8.heap.size, 1, none⟩ = some (.int .i64 (p : Int)) ∧ W.cell? ⟨w.heap.size, 0, none⟩ = some (.int .i64 c.cap) ∧ W.cell? ⟨w.heap.size, 1, none⟩ = some (.int .i64 c.pins) ∧ W.cell? ⟨w.heap.size, 2, none⟩ = some (.int .i64 c.shelves) ∧ W.cell? ⟨w.heap.size, 3, none⟩ = some (.int .i64 c.queue) ∧ W.cell? ⟨w.heap.size, 4, none⟩ = some (.int .i64 c.watchers) ∧ W.cell? ⟨w.heap.size, 5, none⟩ = some (.int .u64 c.seed) ∧ W.cell? (ad.add k) = some (.string t) := fun W S F h => by
          have a1 := h.blk (List.mem_cons_self ..)
          have a2 := h.blk (List.mem_cons_of_mem _ (List.mem_cons_of_mem _ (List.mem_singleton.2 rfl)))
          exact ⟨a1.cell 1, a2.cell 0, a2.cell 1, a2.cell 2, a2.cell 3, a2.cell 4, a2.cell 5, keepc (hbw.out _ _ _ _ h) hadb hcell.out⟩
        replace hK8 := Lib.hid hK8
        have e0 := CA.cell 0
        have e1 := CA.cell 1
        have e2 := CA.cell 2
        have e3 := CA.cell 3
        have e4 := CA.cell 4
        have e5 := CA.cell 5
        clear S9 oA RA CA hv1 hcase hcn c2
        replace hPp := Lib.hid hPp
        replace hv0 := Lib.hid hv0
        replace hput := Lib.hid hput
        replace hMk := Lib.hid hMk
        replace hSt := Lib.hid hSt
        replace hkcp := Lib.hid hkcp
        replace hfin := Lib.hid hfin
        replace oB := Lib.hid oB
        replace htp := Lib.hid htp
        replace hp1 := Lib.hid hp1
        replace hp2 := Lib.hid hp2
        replace p8 := Lib.hid p8
        as_aux_lemma =>
          go_upto_region 20 with fail
          go_cut [95] from 41 to 109 (fun _ wx => QutP w1 c hb ((sb, Obj.cells ((l.set k (p : Int)).map (Value.int .i64)).toArray 3) :: [(w.heap.size, Obj.cells #[.int .i64 c.cap, .int .i64 c.pins, .int .i64 c.shelves, .int .i64 c.queue, .int .i64 c.watchers, .int .u64 c.seed] 24)]) S (putT tx p t) wx)
          case first =>
            go_region_held3 (fun W => W.cell? ⟨w8.heap.size, 1, none⟩ = some (.int .i64 (p : Int)) ∧ W.cell? ⟨w.heap.size, 0, none⟩ = some (.int .i64 c.cap) ∧ W.cell? ⟨w.heap.size, 1, none⟩ = some (.int .i64 c.pins) ∧ W.cell? ⟨w.heap.size, 2, none⟩ = some (.int .i64 c.shelves) ∧ W.cell? ⟨w.heap.size, 3, none⟩ = some (.int .i64 c.queue) ∧ W.cell? ⟨w.heap.size, 4, none⟩ = some (.int .i64 c.watchers) ∧ W.cell? ⟨w.heap.size, 5, none⟩ = some (.int .u64 c.seed) ∧ W.cell? (ad.add k) = some (.string t))
              (first | assumption | go_keep)
              (first | (go_at_call 24; refine (hPp.out _).mono ?_; rintro e w9 ⟨rfl, hb9⟩; have oC := (by first | exact oB.out.below hb9 | exact oB.out.drew.below hb9 | exact (oB.out.drewN _).below hb9 : OwnK w1 hb S F7 _ w9); have sC := hK8.out _ _ _ oC; replace oC := Lib.hid oC; clear hb9) | (go_at_call 25; refine (hMk.out _ _ _ (by first | exact oC.out | exact oC.out.drew | exact oC.out.drewN _)).mono ?_; rintro e w10 ⟨rfl, r10, oD⟩; have sD := hK8.out _ _ _ oD; replace oD := Lib.hid oD) | (go_at_call 23; refine (hSt.out _ _ _ _ oD.out).mono ?_; rintro e w11 ⟨rfl, F11, oE⟩; have sE := hK8.out _ _ _ oE; replace oE := Lib.hid oE))
            all_goals
              go_wp2_with fail
              go_meet
              case rel => exact ⟨_, _, oE.out.less, hput.out r10 t, hft, rfl⟩
          case rest =>
            obtain ⟨S9, F9, oF, hS9, hft9, hla9⟩ := hcut
            replace oF := Lib.hid oF
            replace hS9 := Lib.hid hS9
            clear q0 q1 g1 pA x0 x1 y0 y1
            go_wp2_with fail
            go_roundw
            case rel => first | exact ⟨k + 1, S9, _, _, _, by omega, by go_num, by first | rw [hcw] | rfl, oF.out, hS9.out, hft9, by omega, hl2.out _, hfin.out, hsm2.out⟩ | ((repeat apply Exists.intro); refine ⟨?rr, ?ff⟩; (case ff => first | exact rfl | (apply act_eq; apply slots_eq; repeat' (first | apply cons_eq | exact rfl | (apply congrArg Value.bool; first | (simp; done) | (simp; omega)) | (simp [*]; done)))); (case rr => exact ⟨k + 1, S9, _, _, _, by omega, by go_num, by first | rw [hcw] | rfl, oF.out, hS9.out, hft9, by omega, hl2.out _, hfin.out, hsm2.out⟩))
            case measure => simp [intOf]; omega
    · have d3 : decide ((k : Int) < (len : Int)) = false := by simp; omega
      have hke : k = len := by omega
      rw [hke] at hfk hsm
      replace hsm := Lib.hid hsm
      replace o := Lib.hid o
      replace hfk := Lib.hid hfk
      replace hll := Lib.hid hll
      replace hS := Lib.hid hS
      clear hk
      go_wp2_with fail
      go_loopw [14, 15] (fun tv iv wr => FF2 w w1 len ks other c l S sb hb tv iv wr) (fun _ i _ => len + 1 - (intOf i).toNat)
      case atStart => exact ⟨0, F, false, Nat.zero_le _, rfl, rfl, o.out, by simp⟩
      case round =>
        clear o d3
        obtain ⟨k, F, th, hk, rfl, rfl, o, hth⟩ := hrel
        have mc : (w.heap.size, Obj.cells #[.int .i64 c.cap, .int .i64 c.pins, .int .i64 c.shelves, .int .i64 c.queue, .int .i64 c.watchers, .int .u64 c.seed] 24) ∈ ((sb, Obj.cells (l.map (Value.int .i64)).toArray 3) :: [(w.heap.size, Obj.cells #[.int .i64 c.cap, .int .i64 c.pins, .int .i64 c.shelves, .int .i64 c.queue, .int .i64 c.watchers, .int .u64 c.seed] 24)]) := by simp
        have hbw : ∀ (W : World) (S : PHeap) (F : Nat → Prop) (K : List (Nat × Obj)), OwnK w1 hb S F K W → Below w.heap.size w W := fun W S F K h => hz1.out.trans (h.own.below.mono hz1.out.size)
        have hs1 := o.lt mc
        have hsbl := o.lt (List.mem_cons_self ..)
        simp only at hs1 hsbl
        have hnew := o.own.below.size
        by_cases hlt : k < len
        · have d3 : decide ((k : Int) < (len : Int)) = true := by simp; omega
          have i1 : (0 : Int) ≤ (k : Int) := by omega
          have i2 : (k : Int) < (len : Int) := by omega
          obtain ⟨ad, u, rfl, hadb, hu, hcell⟩ := hr.out.at_ hlt
          obtain ⟨t, ht, rfl⟩ : ∃ t, ks[k]? = some t ∧ Value.string t = u := by simpa using hu
          obtain ⟨t', s, ht', hls, hsl⟩ := hfk.out.each k hlt
          obtain rfl : t = t' := by rw [ht] at ht'; injection ht'
          have p0 := keepc (hbw _ _ _ _ o) hadb hcell
          have ht100 : t.size ≤ 100 := hsm.out k t hlt ht
          have hNt := hNw.out t ht100
          have b0 := o.blk mc
          have c0 := b0.cell 0
          have c1 := b0.cell 1
          have c2 := b0.cell 2
          have c3 := b0.cell 3
          have c4 := b0.cell 4
          have c5 := b0.cell 5
          have hnx : ∀ b : Bool, ((b = true) ↔ (t = other ∧ 0 ≤ s)) → ((th || b) = true ↔ ∃ j, j < k + 1 ∧ ks[j]? = some other ∧ ∃ s, l[j]? = some s ∧ 0 ≤ s) := fun b hb2 => by
            constructor
            · intro h
              rw [Bool.or_eq_true] at h
              rcases h with h | h
              · obtain ⟨j, h1, h2⟩ := hth.1 h
                exact ⟨j, by omega, h2⟩
              · obtain ⟨h1, h2⟩ := hb2.1 h
                exact ⟨k, by omega, by rw [ht, h1], s, hls, h2⟩
            · rintro ⟨j, h1, h2, s', h3, h4⟩
              rw [Bool.or_eq_true]
              by_cases hjk : j = k
              · subst hjk
                rw [ht] at h2
                injection h2 with h2
                rw [hls] at h3
                injection h3 with h3
                exact .inr (hb2.2 ⟨h2, by omega⟩)
              · exact .inl (hth.2 ⟨j, by omega, h2, s', h3, h4⟩)
          clear b0 hu ht'
          replace hbw := Lib.hid hbw
          replace mc := Lib.hid mc
          replace hNt := Lib.hid hNt
          replace o := Lib.hid o
          replace ht := Lib.hid ht
          replace hls := Lib.hid hls
          replace hsl := Lib.hid hsl
          replace hth := Lib.hid hth
          replace hcell := Lib.hid hcell
          replace hnx := Lib.hid hnx
          go_wp2_with fail
          go_still_tail 5, (by kernel_rfl)
          change wpList _ _ _ _ _ wr.drew
          go_wp2_with fail
          refine (hNt.out _).mono ?_; rintro e w6 ⟨b, rfl, hN6, hbb6, hb6'⟩
          have hbb : wr.heap.size ≤ b := hbb6
          have hb6 : Below wr.heap.size wr w6 := (Below.refl _ _).drew.trans hb6'
          have o6 := o.out.below hb6
          have hF := o.out.own.heap.own
          have hFb : ¬ F b := fun h => by have := hF b h; omega
          have hA := falone hR o6.own hN6 hFb (by omega) hS.out hft (by omega)
          have hs6 := hb6.size
          clear hb6' c0 c1 c2 c3 c4 c5 hb6
          replace hA := Lib.hid hA
          replace hN6 := Lib.hid hN6
          replace o6 := Lib.hid o6
          go_wp2_with fail
          refine (hA.out).mono ?_; rintro e w7 ⟨s7, F7, rfl, hL⟩
          have hres := findResult_any hL.lies
          rw [hL.res] at hres
          have o7 := o6.out.looked hL (fun x hx => by
            simp only [List.mem_cons, List.not_mem_nil, or_false] at hx
            rcases hx with rfl | rfl
            · show sb ≠ b; omega
            · show w.heap.size ≠ b; omega)
          have hs7 := hL.chg.size
          have hLk := look_kind (key := t) (pl := plN c t) (tx := tx) c.shelves.toNat 0
          have hLp := look_put (key := t) (pl := plN c t) (tx := tx) c.shelves.toNat 0
          clear hL
          generalize hLe : lookP t (plN c t) tx c.shelves.toNat 0 = L at *
          obtain ⟨lk, ls, ln⟩ := L
          simp only at hres hLk hLp
          have hcase : (0 ≤ s ∧ lk = 1 ∧ ls = s) ∨ (s = -1 ∧ lk = 3) := by
            exact hsl.out
          replace hLe := Lib.hid hLe
          clear hLk hLp
          replace hres := Lib.hid hres
          replace o7 := Lib.hid o7
          replace hcase := Lib.hid hcase
          go_wp2_with fail
          refine (hres.out).mono ?_; rintro e w8 ⟨rfl, hb8⟩
          have o8 := (o7.out.below hb8).below (Below.more_ (Below.refl _ _) (.cells #[.int .i64 lk, .int .i64 ls] 35))
          have R8 := Blk.new w8 35 #[.int .i64 lk, .int .i64 ls]
          have S8 := o8.blk (List.mem_cons_self ..)
          have q0 := R8.cell 0
          have q1 := R8.cell 1
          have s8 : (w8.alloc (.cells #[.int .i64 lk, .int .i64 ls] 35)).cell? ⟨sb, k, none⟩ = some (.int .i64 s) := by rw [S8.cell k]; simp [hls.out]
          have p8 := keepc (hbw.out _ _ _ _ o8) hadb hcell.out
          clear hb8 S8 R8 p0
          replace o8 := Lib.hid o8
          have hfin := fun (b : Bool) (hb2 : (b = true) ↔ (t = other ∧ 0 ≤ s)) => hnx.out b hb2
          replace hfin := Lib.hid hfin
          rcases hcase.out with ⟨hs0, rfl, rfl⟩ | ⟨rfl, rfl⟩
          · have d5 : decide (0 ≤ ls) = true := by simp; omega
            have d6 : decide (ls < 0) = false := by simp; omega
            have d5' : (0 : Int) ≤ ls := hs0
            cases th with
            | true =>
              as_aux_lemma =>
                go_wp2_with fail
                go_quiet (fail)
                go_wp2_with fail
                go_roundw
                case rel => first | exact ⟨k + 1, _, true, by omega, by go_num, rfl, o8.out.drewN _, by have h := hfin.out (decide (t = other ∧ 0 ≤ ls)) (by simp); rw [Bool.true_or] at h; exact h⟩ | ((repeat apply Exists.intro); refine ⟨?rr, ?ff⟩; (case ff => first | exact rfl | (apply act_eq; apply slots_eq; repeat' (first | apply cons_eq | exact rfl | (apply congrArg Value.bool; first | (simp; done) | (simp; omega)) | (simp [*]; done)))); (case rr => exact ⟨k + 1, _, true, by omega, by go_num, rfl, o8.out.drewN _, by have h := hfin.out (decide (t = other ∧ 0 ≤ ls)) (by simp); rw [Bool.true_or] at h; exact h⟩))
                case measure => simp [intOf]; omega
            | false =>
              by_cases hto : t = other
              · subst hto
                as_aux_lemma =>
                  go_wp2_with fail
                  go_quiet (fail)
                  go_wp2_with fail
                  go_roundw
                  case rel => first | exact ⟨k + 1, _, true, by omega, by go_num, rfl, o8.out.drewN _, by have h := hfin.out true (by simp; omega); rw [Bool.false_or] at h; exact h⟩ | ((repeat apply Exists.intro); refine ⟨?rr, ?ff⟩; (case ff => first | exact rfl | (apply act_eq; apply slots_eq; repeat' (first | apply cons_eq | exact rfl | (apply congrArg Value.bool; first | (simp; done) | (simp; omega)) | (simp [*]; done)))); (case rr => exact ⟨k + 1, _, true, by omega, by go_num, rfl, o8.out.drewN _, by have h := hfin.out true (by simp; omega); rw [Bool.false_or] at h; exact h⟩))
                  case measure => simp [intOf]; omega
              · have e5 := txt_ne hto
                have e5b : (t.toList == other.toList) = false := by rw [beq_eq_false_iff_ne]; exact e5
                have hto2 := Lib.hid hto
                clear hto
                as_aux_lemma =>
                  go_wp2_with fail
                  go_quiet (fail)
                  go_wp2_with fail
                  go_roundw
                  case rel => first | exact ⟨k + 1, _, false, by omega, by go_num, rfl, o8.out.drewN _, by have h := hfin.out false (by simp [hto2.out]); rw [Bool.false_or] at h; exact h⟩ | ((repeat apply Exists.intro); refine ⟨?rr, ?ff⟩; (case ff => first | exact rfl | (apply act_eq; apply slots_eq; repeat' (first | apply cons_eq | exact rfl | (apply congrArg Value.bool; first | (simp; done) | (simp; omega)) | (simp [*]; done)))); (case rr => exact ⟨k + 1, _, false, by omega, by go_num, rfl, o8.out.drewN _, by have h := hfin.out false (by simp [hto2.out]); rw [Bool.false_or] at h; exact h⟩))
                  case measure => simp [intOf]; omega
          · have hdummy : True := trivial
            cases th with
            | true =>
              as_aux_lemma =>
                go_wp2_with fail
                go_quiet (fail)
                go_wp2_with fail
                go_roundw
                case rel => first | exact ⟨k + 1, _, true, by omega, by go_num, rfl, o8.out.drewN _, by have h := hfin.out false (by simp); rw [Bool.true_or] at h; exact h⟩ | ((repeat apply Exists.intro); refine ⟨?rr, ?ff⟩; (case ff => first | exact rfl | (apply act_eq; apply slots_eq; repeat' (first | apply cons_eq | exact rfl | (apply congrArg Value.bool; first | (simp; done) | (simp; omega)) | (simp [*]; done)))); (case rr => exact ⟨k + 1, _, true, by omega, by go_num, rfl, o8.out.drewN _, by have h := hfin.out false (by simp); rw [Bool.true_or] at h; exact h⟩))
                case measure => simp [intOf]; omega
            | false =>
              by_cases hto : t = other
              · subst hto
                as_aux_lemma =>
                  go_wp2_with fail
                  go_quiet (fail)
                  go_wp2_with fail
                  go_roundw
                  case rel => first | exact ⟨k + 1, _, false, by omega, by go_num, rfl, o8.out.drewN _, by have h := hfin.out false (by simp); rw [Bool.false_or] at h; exact h⟩ | ((repeat apply Exists.intro); refine ⟨?rr, ?ff⟩; (case ff => first | exact rfl | (apply act_eq; apply slots_eq; repeat' (first | apply cons_eq | exact rfl | (apply congrArg Value.bool; first | (simp; done) | (simp; omega)) | (simp [*]; done)))); (case rr => exact ⟨k + 1, _, false, by omega, by go_num, rfl, o8.out.drewN _, by have h := hfin.out false (by simp); rw [Bool.false_or] at h; exact h⟩))
                  case measure => simp [intOf]; omega
              · have e5 := txt_ne hto
                have e5b : (t.toList == other.toList) = false := by rw [beq_eq_false_iff_ne]; exact e5
                have hto2 := Lib.hid hto
                clear hto
                as_aux_lemma =>
                  go_wp2_with fail
                  go_quiet (fail)
                  go_wp2_with fail
                  go_roundw
                  case rel => first | exact ⟨k + 1, _, false, by omega, by go_num, rfl, o8.out.drewN _, by have h := hfin.out false (by simp); rw [Bool.false_or] at h; exact h⟩ | ((repeat apply Exists.intro); refine ⟨?rr, ?ff⟩; (case ff => first | exact rfl | (apply act_eq; apply slots_eq; repeat' (first | apply cons_eq | exact rfl | (apply congrArg Value.bool; first | (simp; done) | (simp; omega)) | (simp [*]; done)))); (case rr => exact ⟨k + 1, _, false, by omega, by go_num, rfl, o8.out.drewN _, by have h := hfin.out false (by simp); rw [Bool.false_or] at h; exact h⟩))
                  case measure => simp [intOf]; omega
        · have d3 : decide ((k : Int) < (len : Int)) = false := by simp; omega
          have hke : k = len := by omega
          rw [hke] at hth
          clear hk
          have b0 := o.blk mc
          have c0 := b0.cell 0
          have c1 := b0.cell 1
          have c2 := b0.cell 2
          have c3 := b0.cell 3
          have c4 := b0.cell 4
          have c5 := b0.cell 5
          clear b0
          have hend : ((lookP other (plN c other) tx c.shelves.toNat 0).1 = 1 ∧ th = true) ∨ (((lookP other (plN c other) tx c.shelves.toNat 0).1 == 1) = false ∧ th = false) := by
            rcases look_kind (key := other) (pl := plN c other) (tx := tx) c.shelves.toNat 0 with ⟨h1, p, _, h3, _⟩ | h1
            · left
              obtain ⟨j, h4, h5, h6⟩ := hfk.out.put p other h3
              exact ⟨h1, hth.2 ⟨j, h4, h5, h6⟩⟩
            · right
              have hne : (lookP other (plN c other) tx c.shelves.toNat 0).1 ≠ 1 := by
                rcases h1 with h1 | ⟨h1, _⟩ <;> rw [h1] <;> decide
              refine ⟨by rw [beq_eq_false_iff_ne]; exact hne, ?_⟩
              cases th with
              | false => rfl
              | true =>
                exfalso
                obtain ⟨j, h4, h5, s, h6, h7⟩ := hth.1 rfl
                obtain ⟨t, s', h8, h9, h10⟩ := hfk.out.each j h4
                rw [h5] at h8
                injection h8 with h8
                subst h8
                rw [h6] at h9
                injection h9 with h9
                rcases h10 with ⟨_, h11, _⟩ | ⟨h11, _⟩
                · exact hne h11
                · omega
          replace o := Lib.hid o
          replace hth := Lib.hid hth
          replace hend := Lib.hid hend
          replace mc := Lib.hid mc
          replace hbw := Lib.hid hbw
          go_wp2_with fail
          refine (hNo.out _).mono ?_; rintro e w6 ⟨b, rfl, hN6, hbb, hb6⟩
          have o6 := o.out.below hb6
          have hF := o.out.own.heap.own
          have hFb : ¬ F b := fun h => by have := hF b h; omega
          have hA := falone hR o6.own hN6 hFb (by omega) hS.out hft (by omega)
          clear c0 c1 c2 c3 c4 c5 hb6
          replace hA := Lib.hid hA
          replace hN6 := Lib.hid hN6
          replace o6 := Lib.hid o6
          go_wp2_with fail
          refine (hA.out).mono ?_; rintro e w7 ⟨s7, F7, rfl, hL⟩
          have hres := findResult_any hL.lies
          rw [hL.res] at hres
          have o7 := hL.own
          generalize lookP other (plN c other) tx c.shelves.toNat 0 = L at *
          obtain ⟨lk, ls, ln⟩ := L
          simp only at hres
          clear hL
          have hfa := fun W (hb : Below w7.heap.size w7 W) => faults_any (o7.keep hb).heap
          rw [hft] at hfa
          have hw7 := hz1.out.trans (o7.below.mono hz1.out.size)
          replace hres := Lib.hid hres
          replace o7 := Lib.hid o7
          replace hfa := Lib.hid hfa
          replace hw7 := Lib.hid hw7
          go_wp2_with fail
          refine (hres.out).mono ?_; rintro e w8 ⟨rfl, hb8⟩
          have R8 := Blk.new w8 35 #[.int .i64 lk, .int .i64 ls]
          have q0 := R8.cell 0
          have hb8' := hb8.alloc hb8.size (.cells #[.int .i64 lk, .int .i64 ls] 35)
          have hw8 := Below.next_ hw7.out hb8'
          have hfa8 := hfa.out _ hb8'
          clear R8 hb8
          replace hfa8 := Lib.hid hfa8
          replace hb8' := Lib.hid hb8'
          replace hw8 := Lib.hid hw8
          rcases hend.out with ⟨h1, rfl⟩ | ⟨h1, rfl⟩
          · subst h1
            go_wp2_with fail
            refine (hfa8.out).mono ?_; rintro e w9 ⟨rfl, rfl⟩
            go_wp2_with fail
            refine (awake23 _).mono ?_; rintro e w12 ⟨rfl, hb12⟩
            go_wp2_with fail
            go_ret
            exact ⟨rfl, Below.next_ hw8.out hb12⟩
          · go_wp2_with fail
            refine (hfa8.out).mono ?_; rintro e w9 ⟨rfl, rfl⟩
            go_wp2_with fail
            refine (awake23 _).mono ?_; rintro e w12 ⟨rfl, hb12⟩
            go_wp2_with fail
            go_ret
            exact ⟨rfl, Below.next_ hw8.out hb12⟩
end Go.Proofs.Ytpldnbdcpihjcaa
