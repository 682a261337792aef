/-
  The walk over the law that a key that stands on a shelf is found there still (layer 23). No condition.
-/
import Derived.Test.YtpldnbdcpihjcaaFindL
import Derived.Deep.CutRange
import Derived.StillTailTactics
namespace Go.Proofs.Ytpldnbdcpihjcaa
set_option linter.unusedVariables false
open Go.ChangeShapes Go.WideShapes Go.ChangeAt Go.RowKit
open Go.ChangeMaps (setBlock)

theorem slice_own1 {w : World} {base : Nat} {e : TypeId} {size n : Nat} {v : Value} {xs : List Value} (h : w.ownsRow base e size v n xs) (hn : 0 < n) : ∃ g c, v = .slice (some ⟨g, 0, none⟩) n c := by
  rcases h.2 with ⟨rfl, rfl⟩ | ⟨g, cap, cur, rfl, _⟩
  · omega
  · exact ⟨_, _, rfl⟩
/-- Between two rounds. -/
structure StayRel (w w1 : World) (n : Nat) (c : PCfg) (key : ByteArray) (g : Nat) (og : Obj) (hb : Nat) (av iv : Value) (wr : World) : Prop where
  ex : ∃ (k : Nat) (S : PHeap) (F : Nat → Prop) (tx : Nat → Option ByteArray) (a : Int), k ≤ n ∧ iv = .int .i64 k ∧ av = .int .i64 a ∧ OwnK w1 hb S F [(g, og), (w.heap.size, .cells #[.int .i64 c.cap, .int .i64 c.pins, .int .i64 c.shelves, .int .i64 c.queue, .int .i64 c.watchers, .int .u64 c.seed] 24)] wr ∧ Shelved S c tx ∧ S.faults = 0 ∧ S.last ≤ 1 + k ∧
    ((k = 0 ∧ tx = fun _ => none) ∨ (0 < k ∧ lookP key (plN c key) tx c.shelves.toNat 0 = (1, a, 2)))
/-- Behind a key that was put on a shelf. -/
def PutP (w1 : World) (c : PCfg) (hb : Nat) (K : List (Nat × Obj)) (S : PHeap) (tx : Nat → Option ByteArray) (wx : World) : Prop :=
  ∃ (S' : PHeap) (F' : Nat → Prop), OwnK w1 hb S' F' K wx ∧ Shelved S' c tx ∧ S'.faults = 0 ∧ S'.last = S.last + 1
set_option maxRecDepth 100000 in
set_option maxHeartbeats 40000000 in
theorem walkStays (key : ByteArray) (A : Option Addr) (len cap : Nat) (ks : List ByteArray) (hlen : ks.length = len) (hmax : len ≤ maxLen) (c : PCfg) (w : World) (hr : Reads w w.heap.size 1 A len (ks.map Value.string)) :
    Calls Try.prog 5 #[c.val, .string key, .slice A len cap] w fun e w' => e = .returned (.bool true) ∧ Below w.heap.size w w' := by
  obtain ⟨i0, hi, hz0', hz1', hz2'⟩ : ∃ i, Try.prog.info? 9 = some i ∧ i.zero = some (.string ⟨#[]⟩) ∧ i.size = 1 ∧ i.bytes = 16 := ⟨_, rfl, rfl, rfl, rfl⟩
  have hCV : c.val = .agg #[.int .i64 c.cap, .int .i64 c.pins, .int .i64 c.shelves, .int .i64 c.queue, .int .i64 c.watchers, .int .u64 c.seed] := rfl
  have hRR := fun W => right_cfg c W
  have hz : Below w.heap.size w (w.alloc (.cells #[.int .i64 c.cap, .int .i64 c.pins, .int .i64 c.shelves, .int .i64 c.queue, .int .i64 c.watchers, .int .u64 c.seed] 24)) := (Below.refl _ _).alloc (Nat.le_refl _) _
  have B0 := Blk.new w 24 #[.int .i64 c.cap, .int .i64 c.pins, .int .i64 c.shelves, .int .i64 c.queue, .int .i64 c.watchers, .int .u64 c.seed]
  replace hmax : len ≤ 9223372036854775807 := by unfold maxLen at hmax; omega
  have hNw : ∀ (t : ByteArray), t.size ≤ 100 → ∀ W, _ := fun t ht W => findNew_any c t (by omega) W
  have hFd : c.Right → ∀ W, _ := fun h W => field_any c h W
  have hPk : ∀ (h : c.Right) (p : Nat) (hp : (p : Int) < c.shelves), ∀ W, _ := fun h p hp W => planKey_any c h (p : Int) ⟨by omega, hp⟩ W
  rw [hCV] at hNw hRR hFd hPk ⊢
  clear hCV
  replace hNw := Lib.hid hNw
  replace hFd := Lib.hid hFd
  replace hPk := Lib.hid hPk
  replace hr := Lib.hid hr
  replace hz := Lib.hid hz
  replace B0 := Lib.hid B0
  have hbad : (c.right = false) ∨ (c.right = true ∧ 40 < len) ∨ (c.right = true ∧ ¬ 40 < len ∧ 100 < key.size) ∨ (c.right = true ∧ ¬ 40 < len ∧ ¬ 100 < key.size) := by
    cases c.right <;> simp <;> omega
  rcases hbad with h1 | ⟨h1, h2⟩ | ⟨h1, h2, h3⟩ | ⟨h1, h2, h3⟩
  · rw [h1] at hRR
    replace hRR := Lib.hid hRR
    replace h1 := Lib.hid h1
    as_aux_lemma =>
      go_enter Try.func5, Try.ntmps5
      go_wp2_with fail
      refine (hRR.out _).mono ?_; rintro e w1 ⟨rfl, hb1⟩
      go_wp2_with fail
      refine (awake23 _).mono ?_; rintro e w7 ⟨rfl, hb7⟩
      go_wp2_with fail
      go_ret
      have h1 := nx hz.out (Nat.le_refl _) hb1
      exact ⟨rfl, h1.trans (hb7.mono h1.size)⟩
  · rw [h1] at hRR
    have d1 : decide ((40 : Int) < (len : Int)) = true := by simp; omega
    replace hRR := Lib.hid hRR
    replace h1 := Lib.hid h1
    as_aux_lemma =>
      go_enter Try.func5, Try.ntmps5
      go_wp2_with fail
      refine (hRR.out _).mono ?_; rintro e w1 ⟨rfl, hb1⟩
      go_wp2_with fail
      refine (awake23 _).mono ?_; rintro e w7 ⟨rfl, hb7⟩
      go_wp2_with fail
      go_ret
      have h1 := nx hz.out (Nat.le_refl _) hb1
      exact ⟨rfl, h1.trans (hb7.mono h1.size)⟩
  · rw [h1] at hRR
    have d1 : decide ((40 : Int) < (len : Int)) = false := by simp; omega
    have d2 : decide ((100 : Int) < (key.size : Int)) = true := by simp; omega
    replace hRR := Lib.hid hRR
    replace h1 := Lib.hid h1
    as_aux_lemma =>
      go_enter Try.func5, Try.ntmps5
      go_wp2_with fail
      refine (hRR.out _).mono ?_; rintro e w1 ⟨rfl, hb1⟩
      go_wp2_with fail
      refine (awake23 _).mono ?_; rintro e w7 ⟨rfl, hb7⟩
      go_wp2_with fail
      go_ret
      have h1 := nx hz.out (Nat.le_refl _) hb1
      exact ⟨rfl, h1.trans (hb7.mono h1.size)⟩
  rw [h1] at hRR
  have hR := (PCfg.right_iff c).1 h1
  have hsh := hR.shelves
  have d1 : decide ((40 : Int) < (len : Int)) = false := by simp; omega
  have d2 : decide ((100 : Int) < (key.size : Int)) = false := by simp; omega
  replace h1 := Lib.hid h1
  replace h2 := Lib.hid h2
  replace h3 := Lib.hid h3
  replace hRR := Lib.hid hRR
  have hNk := hNw.out key (by have := h3.out; omega)
  replace hNk := Lib.hid hNk
  have hk100 : key.size ≤ 100 := by have := h3.out; omega
  have hl40 : len ≤ 40 := by have := h2.out; omega
  go_enter Try.func5, Try.ntmps5
  go_wp2_with fail
  refine (hRR.out _).mono ?_; rintro e w1 ⟨rfl, hb1⟩
  have C1 := B0.out.below hb1 (by simp)
  have hz1 := nx hz.out (Nat.le_refl _) hb1
  have c0 := C1.cell 0
  have c1 := C1.cell 1
  have c2 := C1.cell 2
  have c3 := C1.cell 3
  have c4 := C1.cell 4
  have c5 := C1.cell 5
  clear hb1
  replace C1 := Lib.hid C1
  replace hz1 := Lib.hid hz1
  go_wp2_with fail
  refine (hFd.out hR _).mono ?_; rintro e w2 ⟨hb, r, rfl, s2⟩
  obtain ⟨F2, o2⟩ := Own.of_sess s2
  have hF2 := o2.heap.own
  have C2 := C1.out.below s2.below C1.out.lt
  have hw1 := C1.out.lt
  have hw12 := o2.below.size
  have hz2 := hz1.out.trans (s2.below.mono hz1.out.size)
  have hr2 := hr.out.below (Below.more_ hz2 (.cells #[.string key] 9))
  have hrow := owns_blk (base := w2.heap.size) (Blk.new w2 9 #[.string key]) (n := 1) 1 rfl (by decide) (Nat.le_refl _)
  have C3 := C2.alloc (.cells #[.string key] 9)
  have o3 := o2.alloc (.cells #[.string key] 9)
  clear s2 c0 c1 c2 c3 c4 c5
  replace o2 := Lib.hid o2
  replace o3 := Lib.hid o3
  replace C2 := Lib.hid C2
  replace C3 := Lib.hid C3
  replace hz2 := Lib.hid hz2
  replace hrow := Lib.hid hrow
  replace hr2 := Lib.hid hr2
  go_wp2_with (at_builtin; go_loud (refine wpList_append_any _ rfl _ _ 47 rfl w2.heap.size 9 i0 (.string ⟨#[]⟩) 1 16 Try.underlying47 hi hz0' hz1' hz2' rfl (by decide) _ _ _ rfl hrow.out _ A len cap (ks.map Value.string) rfl hr2.out (by simp [Value.oneCell']) (by unfold maxLen; omega) (by omega) (by simp) ?_; intro v' w5 hown5 hgrow hloc; have C5 := C3.out.grown hgrow (fun e => by have := (World.ownsRow.lt hrow.out _ e.symm).1; omega); have o5 : Own w1 hb (fieldS c r) F2 w5 := ⟨o3.out.heap.keep hgrow.size fun k hk => hgrow.block k (o3.out.heap.own k hk) (fun e => by have := (World.ownsRow.lt hrow.out _ e.symm).1; have := hF2 k hk; omega), o2.out.new, ⟨hgrow.os.trans o3.out.below.os, hgrow.tape.trans o3.out.below.tape, hgrow.output.trans o3.out.below.output, Nat.le_trans o3.out.below.size hgrow.size, fun k hk => (hgrow.block k (Nat.lt_of_lt_of_le hk o3.out.below.size) (fun e => by have := (World.ownsRow.lt hrow.out _ e.symm).1; omega)).trans (o3.out.below.block k hk)⟩⟩; replace hgrow := Lib.hid hgrow; replace hloc := Lib.hid hloc; replace C5 := Lib.hid C5; replace o5 := Lib.hid o5; obtain ⟨g, cp, rfl⟩ := slice_own1 hown5 (by omega); replace hown5 := Lib.hid hown5))
  have hkk : ∀ j t, (key :: ks)[j]? = some t → w5.cell? ⟨g, j, none⟩ = some (.string t) := fun j t hj => by
    have h := hown5.out.cells (g := g) rfl j (.string t) (by
      cases j with
      | zero => simpa using hj
      | succ j => simpa using hj)
    have e2 : (⟨g, 0, none⟩ : Addr).add j = ⟨g, j, none⟩ := by unfold Addr.add; split <;> simp_all
    rw [e2] at h
    exact h
  have hgb := World.ownsRow.lt hown5.out g rfl
  have hgF : ¬ F2 g := fun h => by have := hF2 g h; omega
  obtain ⟨og, hog⟩ : ∃ og, w5.heap[g]? = some og := ⟨_, Array.getElem?_eq_getElem hgb.2⟩
  have hcell : ∀ (W : World) (j : Nat) (t : ByteArray), W.heap[g]? = some og → (key :: ks)[j]? = some t → W.cell? ⟨g, j, none⟩ = some (.string t) := fun W j t h1 h2 => cell_of (h1.trans hog.symm) (hkk j t h2)
  have hOK : OwnK w1 hb (fieldS c r) F2 [(g, og), (w.heap.size, .cells #[.int .i64 c.cap, .int .i64 c.pins, .int .i64 c.shelves, .int .i64 c.queue, .int .i64 c.watchers, .int .u64 c.seed] 24)] w5 := ⟨o5.out, fun x hx => by
    simp only [List.mem_cons, List.not_mem_nil, or_false] at hx
    rcases hx with rfl | rfl
    · exact ⟨hog, hgF⟩
    · exact ⟨C5.out, fun h => by have := o5.out.new _ h; omega⟩⟩
  replace hkk := Lib.hid hkk
  replace hog := Lib.hid hog
  replace hcell := Lib.hid hcell
  replace hOK := Lib.hid hOK
  go_loopw [8, 10] (fun av iv wr => StayRel w w1 (len + 1) c key g og hb av iv wr) (fun _ i _ => len + 2 - (intOf i).toNat)
  case atStart => exact ⟨⟨0, fieldS c r, F2, fun _ => none, -1, Nat.zero_le _, rfl, rfl, hOK.out, field_shelved c hR r, rfl, by show (1 : Int) ≤ _; decide, .inl ⟨rfl, rfl⟩⟩⟩
  case round =>
    obtain ⟨⟨k, S, F, tx, at_, hk, rfl, rfl, o, hS, hft, hla, hst⟩⟩ := hrel
    by_cases hlt : k < len + 1
    · have d3 : decide ((k : Int) < (1 : Int) + (len : Int)) = true := by simp; omega
      have d3' : decide ((k : Int) < ((1 + len : Nat) : Int)) = true := by simp; omega
      have i1 : (0 : Int) ≤ (k : Int) := by omega
      have i2 : (k : Int) < (1 : Int) + (len : Int) := by omega
      have i2' : (k : Int) < ((1 + len : Nat) : Int) := by omega
      obtain ⟨t, ht⟩ : ∃ t, (key :: ks)[k]? = some t := ⟨_, List.getElem?_eq_getElem (by simp; omega)⟩
      have mg : (g, og) ∈ [(g, og), (w.heap.size, .cells #[.int .i64 c.cap, .int .i64 c.pins, .int .i64 c.shelves, .int .i64 c.queue, .int .i64 c.watchers, .int .u64 c.seed] 24)] := by simp
      have mc : (w.heap.size, Obj.cells #[.int .i64 c.cap, .int .i64 c.pins, .int .i64 c.shelves, .int .i64 c.queue, .int .i64 c.watchers, .int .u64 c.seed] 24) ∈ [(g, og), (w.heap.size, .cells #[.int .i64 c.cap, .int .i64 c.pins, .int .i64 c.shelves, .int .i64 c.queue, .int .i64 c.watchers, .int .u64 c.seed] 24)] := by simp
      have p0 := hcell.out wr k t (o.keep _ mg).1 ht
      have hgr := o.lt mg
      have hs1 := o.lt mc
      simp only at hgr hs1
      by_cases hbig : 100 < t.size
      · have d4 : decide ((100 : Int) < (t.size : Int)) = true := by simp; omega
        have hw' := hz1.out.trans (o.own.below.mono hz1.out.size)
        replace o := Lib.hid o
        replace hst := Lib.hid hst
        replace ht := Lib.hid ht
        as_aux_lemma =>
          go_wp2_with fail
          refine (awake23 _).mono ?_; rintro e w7 ⟨rfl, hb7⟩
          go_wp2_with fail
          go_ret
          exact ⟨rfl, Below.next_ hw' hb7⟩
      have d4 : decide ((100 : Int) < (t.size : Int)) = false := by simp; omega
      have hNt := hNw.out t (by omega)
      have b0 := o.blk mc
      have c0 := b0.cell 0
      have c1 := b0.cell 1
      have c2 := b0.cell 2
      have c3 := b0.cell 3
      have c4 := b0.cell 4
      have c5 := b0.cell 5
      have hwlt := hz1.out.size
      have hnew := o.own.below.size
      clear b0
      replace mg := Lib.hid mg
      replace mc := Lib.hid mc
      replace hNt := Lib.hid hNt
      replace o := Lib.hid o
      replace hst := Lib.hid hst
      replace ht := Lib.hid ht
      replace hS := Lib.hid hS
      go_wp2_with fail
      go_still_tail 5, (by kernel_rfl)
      change wpList _ _ _ _ _ wr.drew
      go_wp2_with fail
      refine (hNt.out _).mono ?_; rintro e w6 ⟨b, rfl, hN6, hbb6, hb6'⟩
      have hbb : wr.heap.size ≤ b := hbb6
      have hb6 : Below wr.heap.size wr w6 := (Below.refl _ _).drew.trans hb6'
      have o6 := o.out.below hb6
      have hF := o.out.own.heap.own
      have hFb : ¬ F b := fun h => by have := hF b h; omega
      have hA := falone hR o6.own hN6 hFb (by omega) hS.out hft (by omega)
      have hs6 := hb6.size
      clear hb6' c0 c1 c2 c3 c4 c5 p0 hb6
      replace hA := Lib.hid hA
      replace hN6 := Lib.hid hN6
      replace o6 := Lib.hid o6
      go_wp2_with fail
      refine (hA.out).mono ?_; rintro e w7 ⟨s7, F7, rfl, hL⟩
      have hres := findResult_any hL.lies
      rw [hL.res] at hres
      have o7 := o6.out.looked hL (fun x hx => by
        simp only [List.mem_cons, List.not_mem_nil, or_false] at hx
        rcases hx with rfl | rfl
        · show g ≠ b; omega
        · show w.heap.size ≠ b; omega)
      have hs7 := hL.chg.size
      have hLk := look_kind (key := t) (pl := plN c t) (tx := tx) c.shelves.toNat 0
      have hLp := look_put (key := t) (pl := plN c t) (tx := tx) c.shelves.toNat 0
      generalize hLe : lookP t (plN c t) tx c.shelves.toNat 0 = L at *
      obtain ⟨lk, ls, ln⟩ := L
      simp only at hres hLk hLp
      clear hL
      have hcase : (∃ p : Nat, lk = 2 ∧ ls = p ∧ (p : Int) < c.shelves ∧ tx p = none ∧ ∃ tx', tx' = putT tx p t ∧ ∃ a', a' = (if k = 0 then (p : Int) else at_) ∧ lookP key (plN c key) tx' c.shelves.toNat 0 = (1, a', 2)) ∨ (0 < k ∧ (lk == 2) = false ∧ lookP key (plN c key) tx c.shelves.toNat 0 = (1, at_, 2)) := by
        rcases hst.out with ⟨hk0, htx⟩ | ⟨hk0, hlook⟩
        · left
          have htk : t = key := by
            have := ht.out
            rw [hk0] at this
            simpa using this.symm
          subst htk
          have hd : ∃ d, c.shelves.toNat = d + 1 := ⟨c.shelves.toNat - 1, by omega⟩
          obtain ⟨d, hd⟩ := hd
          have hl0 : lookP t (plN c t) tx c.shelves.toNat 0 = (2, ((plN c t 0 : Nat) : Int), 1) := by rw [hd, htx]; rfl
          rw [hl0] at hLe
          injection hLe with e1 e2
          injection e2 with e2 e3
          subst e1 e2 e3
          obtain ⟨p, h1, h2, _, h4⟩ := hLp rfl
          have hpp : plN c t 0 = p := by omega
          subst hpp
          exact ⟨plN c t 0, rfl, rfl, (plN_eq hR t 0).2, h2, _, rfl, _, rfl, by rw [if_pos hk0]; exact h4⟩
        · rcases hLk with ⟨h1, _⟩ | h1 | ⟨h1, _⟩
          · exact .inr ⟨hk0, by rw [h1]; rfl, hlook⟩
          · left
            obtain ⟨p, h2, h3, ⟨i, h5⟩, h4⟩ := hLp h1
            refine ⟨p, h1, h2, by rw [h5]; exact (plN_eq hR t i).2, h3, _, rfl, _, rfl, ?_⟩
            rw [if_neg (by omega), look_ext (put_ext h3 t) _ _ (by rw [hlook]; show (1 : Int) ≠ 2; decide)]
            exact hlook
          · exact .inr ⟨hk0, by rw [h1]; rfl, hlook⟩
      clear hLe hLk hLp hst
      replace hres := Lib.hid hres
      replace o7 := Lib.hid o7
      replace hcase := Lib.hid hcase
      go_wp2_with fail
      refine (hres.out).mono ?_; rintro e w8 ⟨rfl, hb8⟩
      have o8 := (o7.out.below hb8).add (.cells #[.int .i64 lk, .int .i64 ls] 35)
      have R8 := Blk.new w8 35 #[.int .i64 lk, .int .i64 ls]
      have C8 := o8.blk (List.mem_cons_of_mem _ mc.out)
      have hs8 := hb8.size
      have q0 := R8.cell 0
      have q1 := R8.cell 1
      have c0 := C8.cell 0
      have c1 := C8.cell 1
      have c2 := C8.cell 2
      have c3 := C8.cell 3
      have c4 := C8.cell 4
      have c5 := C8.cell 5
      clear hb8 R8 C8
      replace o8 := Lib.hid o8
      rcases hcase.out with ⟨p, rfl, rfl, hpl, htp, tx', htx', a', ha', hlk'⟩ | ⟨hk0, d5, hlk'⟩
      · have hPp := hPk.out hR p hpl
        rw [show 3 + c.pins + c.cap + 2 * (p : Int) = ((kcell c p : Nat) : Int) by rw [kcell_eq hR]] at hPp
        have pg := hcell.out _ k t (o8.out.keep _ (List.mem_cons_of_mem _ mg.out)).1 ht.out
        obtain ⟨v0, hv0, hv1, _⟩ := hS.out.at_ p hpl
        rw [hv1 htp] at hv0
        have hput := hS.out.put p hpl
        generalize hkcp : kcell c p = kp at *
        have hMk : ∀ W F K, OwnK w1 hb S F K W → Calls Try.prog 25 #[.pointer (some ⟨hb, 0, none⟩), .int .i64 0, .string t] W fun e w' => e = .returned (.int .u64 (S.last + 1)) ∧ ∃ r, OwnK w1 hb (S.more r t) (nw F W w') K w' := fun W F K h => (make_more h.own.heap t (by omega)).mono fun e w' ⟨he, r, ht⟩ => ⟨he, r, h.turned ht⟩
        have hSt : ∀ W F K r, OwnK w1 hb (S.more r t) F K W → Calls Try.prog 23 #[.pointer (some ⟨hb, 0, none⟩), .int .u64 1, .int .i64 kp, .int .u64 (S.last + 1)] W fun e w' => e = .returned (.int .i64 0) ∧ ∃ F', OwnK w1 hb ((S.more r t).set 1 kp (S.last + 1)) F' K w' := fun W F K r h => (ctl_store h.own.heap (hv0.more r t) (S.last + 1) (by have := hS.out.one; omega)).mono fun e w' ⟨he, ht⟩ => ⟨he, _, h.turned ht⟩
        replace hPp := Lib.hid hPp
        replace htp := Lib.hid htp
        replace htx' := Lib.hid htx'
        replace hlk' := Lib.hid hlk'
        replace hput := Lib.hid hput
        replace hv0 := Lib.hid hv0
        replace hkcp := Lib.hid hkcp
        replace hMk := Lib.hid hMk
        replace hSt := Lib.hid hSt
        clear hv1 hcase
        go_upto_region 15 with fail
        go_cut [69] from 39 to 117 (fun _ wx => PutP w1 c hb ((w8.heap.size, .cells #[.int .i64 2, .int .i64 (p : Int)] 35) :: [(g, og), (w.heap.size, .cells #[.int .i64 c.cap, .int .i64 c.pins, .int .i64 c.shelves, .int .i64 c.queue, .int .i64 c.watchers, .int .u64 c.seed] 24)]) S tx' wx)
        case first =>
          as_aux_lemma =>
            go_region_with (first | (go_at_call 24; refine (hPp.out _).mono ?_; rintro e w9 ⟨rfl, hb9⟩; have o9 := (by first | exact o8.out.below hb9 | exact o8.out.drew.below hb9 | exact (o8.out.drewN _).below hb9 : OwnK w1 hb S F7 ((w8.heap.size, .cells #[.int .i64 2, .int .i64 (p : Int)] 35) :: [(g, og), (w.heap.size, .cells #[.int .i64 c.cap, .int .i64 c.pins, .int .i64 c.shelves, .int .i64 c.queue, .int .i64 c.watchers, .int .u64 c.seed] 24)]) w9); have pg9 := hcell.out _ k t (o9.keep _ (List.mem_cons_of_mem _ mg.out)).1 ht.out; replace o9 := Lib.hid o9; clear hb9) | (go_at_call 25; refine (hMk.out _ _ _ (by first | exact o9.out | exact o9.out.drew | exact o9.out.drewN _)).mono ?_; rintro e w10 ⟨rfl, r10, o10⟩; replace o10 := Lib.hid o10) | (go_at_call 23; refine (hSt.out _ _ _ _ o10.out).mono ?_; rintro e w11 ⟨rfl, F11, o11⟩; replace o11 := Lib.hid o11))
            all_goals
              go_wp2_with fail
              go_meet
              case rel =>
                have hsv := hput.out r10 t
                rw [htx'.out]
                exact ⟨_, _, o11.out, hsv, hft, rfl⟩
        case rest =>
          obtain ⟨S9, F9, o9, hS9, hft9, hla9⟩ := hcut
          replace o9 := Lib.hid o9
          replace hS9 := Lib.hid hS9
          have R9 := o9.out.blk (List.mem_cons_self ..)
          have C9 := o9.out.blk (List.mem_cons_of_mem _ mc.out)
          clear q0 q1 c0 c1 c2 c3 c4 c5 pg
          have q0 := R9.cell 0
          have q1 := R9.cell 1
          have c0 := C9.cell 0
          have c1 := C9.cell 1
          have c2 := C9.cell 2
          have c3 := C9.cell 3
          have c4 := C9.cell 4
          have c5 := C9.cell 5
          clear R9 C9
          by_cases hk0 : k = 0
          · subst hk0
            simp only [if_true] at ha'
            subst ha'
            as_aux_lemma =>
              go_wp2_with fail
              refine (hNk.out _).mono ?_; rintro e w20 ⟨b2, rfl, hN20, hbb20, hb20⟩
              have o20 := o9.out.below hb20
              have hF20 := o9.out.own.heap.own
              have hnew20 := o9.out.own.below.size
              have hFb2 : ¬ F9 b2 := fun h => by have := hF20 b2 h; omega
              have hgl := o9.out.lt (List.mem_cons_of_mem _ mg.out)
              have hcl := o9.out.lt (List.mem_cons_of_mem _ mc.out)
              have hfl := o9.out.lt (List.mem_cons_self ..)
              simp only at hgl hcl hfl
              have hA2 := falone hR o20.own hN20 hFb2 (by omega) hS9.out hft9 (by omega)
              rw [hlk'.out] at hA2
              clear hb20
              replace hA2 := Lib.hid hA2
              replace hN20 := Lib.hid hN20
              replace o20 := Lib.hid o20
              clear q0 q1 c0 c1 c2 c3 c4 c5
              go_wp2_with fail
              refine (hA2.out).mono ?_; rintro e w21 ⟨s21, F21, rfl, hL21⟩
              have hres21 := findResult_any hL21.lies
              rw [hL21.res] at hres21
              have o21 := o20.out.looked hL21 (fun x hx => by
                simp only [List.mem_cons, List.not_mem_nil, or_false] at hx
                rcases hx with rfl | rfl | rfl
                · show w8.heap.size ≠ b2; omega
                · show g ≠ b2; omega
                · show w.heap.size ≠ b2; omega)
              clear hL21
              replace hres21 := Lib.hid hres21
              replace o21 := Lib.hid o21
              go_wp2_with fail
              refine (hres21.out).mono ?_; rintro e w22 ⟨rfl, hb22⟩
              have o22 := ((o21.out.below hb22).less).below (Below.more_ (Below.refl _ _) (.cells #[.int .i64 1, .int .i64 (p : Int)] 35))
              have R22 := Blk.new w22 35 #[.int .i64 1, .int .i64 (p : Int)]
              have q0 := R22.cell 0
              have q1 := R22.cell 1
              clear hb22 R22
              replace o22 := Lib.hid o22
              go_wp2_with fail
              go_roundw
              case rel => first | exact ⟨⟨0 + 1, S9, _, tx', (p : Int), by omega, by go_num, rfl, o22.out, hS9.out, hft9, by omega, .inr ⟨by omega, hlk'.out⟩⟩⟩ | ((repeat apply Exists.intro); refine ⟨?rr, ?ff⟩; (case ff => first | exact rfl | (apply act_eq; apply slots_eq; repeat' (first | apply cons_eq | exact rfl | (apply congrArg Value.bool; first | (simp; done) | (simp; omega)) | (simp [*]; done)))); (case rr => exact ⟨⟨0 + 1, S9, _, tx', (p : Int), by omega, by go_num, rfl, o22.out, hS9.out, hft9, by omega, .inr ⟨by omega, hlk'.out⟩⟩⟩))
              case measure => first | (simp [intOf]; done) | (simp [intOf]; omega)
          · rw [if_neg hk0] at ha'
            subst ha'
            have d6 : ((k : Int) == 0) = false := by rw [beq_eq_false_iff_ne]; omega
            replace hk0 := Lib.hid hk0
            as_aux_lemma =>
              go_wp2_with fail
              refine (hNk.out _).mono ?_; rintro e w20 ⟨b2, rfl, hN20, hbb20, hb20⟩
              have o20 := o9.out.below hb20
              have hF20 := o9.out.own.heap.own
              have hnew20 := o9.out.own.below.size
              have hFb2 : ¬ F9 b2 := fun h => by have := hF20 b2 h; omega
              have hgl := o9.out.lt (List.mem_cons_of_mem _ mg.out)
              have hcl := o9.out.lt (List.mem_cons_of_mem _ mc.out)
              have hfl := o9.out.lt (List.mem_cons_self ..)
              simp only at hgl hcl hfl
              have hA2 := falone hR o20.own hN20 hFb2 (by omega) hS9.out hft9 (by omega)
              rw [hlk'.out] at hA2
              clear hb20
              replace hA2 := Lib.hid hA2
              replace hN20 := Lib.hid hN20
              replace o20 := Lib.hid o20
              clear q0 q1 c0 c1 c2 c3 c4 c5
              go_wp2_with fail
              refine (hA2.out).mono ?_; rintro e w21 ⟨s21, F21, rfl, hL21⟩
              have hres21 := findResult_any hL21.lies
              rw [hL21.res] at hres21
              have o21 := o20.out.looked hL21 (fun x hx => by
                simp only [List.mem_cons, List.not_mem_nil, or_false] at hx
                rcases hx with rfl | rfl | rfl
                · show w8.heap.size ≠ b2; omega
                · show g ≠ b2; omega
                · show w.heap.size ≠ b2; omega)
              clear hL21
              replace hres21 := Lib.hid hres21
              replace o21 := Lib.hid o21
              go_wp2_with fail
              refine (hres21.out).mono ?_; rintro e w22 ⟨rfl, hb22⟩
              have o22 := ((o21.out.below hb22).less).below (Below.more_ (Below.refl _ _) (.cells #[.int .i64 1, .int .i64 a'] 35))
              have R22 := Blk.new w22 35 #[.int .i64 1, .int .i64 a']
              have q0 := R22.cell 0
              have q1 := R22.cell 1
              clear hb22 R22
              replace o22 := Lib.hid o22
              go_wp2_with fail
              go_roundw
              case rel => first | exact ⟨⟨k + 1, S9, _, tx', a', by omega, by go_num, rfl, o22.out, hS9.out, hft9, by omega, .inr ⟨by omega, hlk'.out⟩⟩⟩ | ((repeat apply Exists.intro); refine ⟨?rr, ?ff⟩; (case ff => first | exact rfl | (apply act_eq; apply slots_eq; repeat' (first | apply cons_eq | exact rfl | (apply congrArg Value.bool; first | (simp; done) | (simp; omega)) | (simp [*]; done)))); (case rr => exact ⟨⟨k + 1, S9, _, tx', a', by omega, by go_num, rfl, o22.out, hS9.out, hft9, by omega, .inr ⟨by omega, hlk'.out⟩⟩⟩))
              case measure => first | (simp [intOf]; done) | (simp [intOf]; omega)
      · have d6 : ((k : Int) == 0) = false := by rw [beq_eq_false_iff_ne]; omega
        have hla8 : S.last ≤ S.last + 1 := by omega
        clear hcase
        replace hlk' := Lib.hid hlk'
        as_aux_lemma =>
          go_wp2_with fail
          refine (hNk.out _).mono ?_; rintro e w20 ⟨b2, rfl, hN20, hbb20, hb20⟩
          have o20 := o8.out.below hb20
          have hF20 := o8.out.own.heap.own
          have hnew20 := o8.out.own.below.size
          have hFb2 : ¬ F7 b2 := fun h => by have := hF20 b2 h; omega
          have hgl := o8.out.lt (List.mem_cons_of_mem _ mg.out)
          have hcl := o8.out.lt (List.mem_cons_of_mem _ mc.out)
          have hfl := o8.out.lt (List.mem_cons_self ..)
          simp only at hgl hcl hfl
          have hA2 := falone hR o20.own hN20 hFb2 (by omega) hS.out hft (by omega)
          rw [hlk'.out] at hA2
          clear hb20
          replace hA2 := Lib.hid hA2
          replace hN20 := Lib.hid hN20
          replace o20 := Lib.hid o20
          clear q0 q1 c0 c1 c2 c3 c4 c5
          go_wp2_with fail
          refine (hA2.out).mono ?_; rintro e w21 ⟨s21, F21, rfl, hL21⟩
          have hres21 := findResult_any hL21.lies
          rw [hL21.res] at hres21
          have o21 := o20.out.looked hL21 (fun x hx => by
            simp only [List.mem_cons, List.not_mem_nil, or_false] at hx
            rcases hx with rfl | rfl | rfl
            · show w8.heap.size ≠ b2; omega
            · show g ≠ b2; omega
            · show w.heap.size ≠ b2; omega)
          clear hL21
          replace hres21 := Lib.hid hres21
          replace o21 := Lib.hid o21
          go_wp2_with fail
          refine (hres21.out).mono ?_; rintro e w22 ⟨rfl, hb22⟩
          have o22 := ((o21.out.below hb22).less).below (Below.more_ (Below.refl _ _) (.cells #[.int .i64 1, .int .i64 at_] 35))
          have R22 := Blk.new w22 35 #[.int .i64 1, .int .i64 at_]
          have q0 := R22.cell 0
          have q1 := R22.cell 1
          clear hb22 R22
          replace o22 := Lib.hid o22
          go_wp2_with fail
          go_roundw
          case rel => first | exact ⟨⟨k + 1, S, _, tx, at_, by omega, by go_num, rfl, o22.out, hS.out, hft, by omega, .inr ⟨by omega, hlk'.out⟩⟩⟩ | ((repeat apply Exists.intro); refine ⟨?rr, ?ff⟩; (case ff => first | exact rfl | (apply act_eq; apply slots_eq; repeat' (first | apply cons_eq | exact rfl | (apply congrArg Value.bool; first | (simp; done) | (simp; omega)) | (simp [*]; done)))); (case rr => exact ⟨⟨k + 1, S, _, tx, at_, by omega, by go_num, rfl, o22.out, hS.out, hft, by omega, .inr ⟨by omega, hlk'.out⟩⟩⟩))
          case measure => first | (simp [intOf]; done) | (simp [intOf]; omega)
    · have d3 : decide ((k : Int) < (1 : Int) + (len : Int)) = false := by simp; omega
      have d3' : decide ((k : Int) < ((1 + len : Nat) : Int)) = false := by simp; omega
      have hw' := hz1.out.trans (o.own.below.mono hz1.out.size)
      replace o := Lib.hid o
      replace hst := Lib.hid hst
      as_aux_lemma =>
        go_wp2_with fail
        refine (awake23 _).mono ?_; rintro e w7 ⟨rfl, hb7⟩
        go_wp2_with fail
        go_ret
        exact ⟨rfl, Below.next_ hw' hb7⟩
end Go.Proofs.Ytpldnbdcpihjcaa
