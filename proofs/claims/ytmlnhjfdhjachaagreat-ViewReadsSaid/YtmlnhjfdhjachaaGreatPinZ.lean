import Derived.Test.YtmlnhjfdhjachaaGreatPinR
import Derived.Test.YtmlnhjfdhjachaaGreatRing
import Derived.Test.YtmlnhjfdhjachaaGreatTapeD
/-
  The document's pinning on a tape (layer 25). No condition.
-/
namespace Go.Proofs.YtmlnhjfdhjachaaGreat
set_option linter.unusedVariables false
open Go.ChangeShapes Go.WideShapes Go.ChangeAt Go.RowKit
open Go.ChangeMaps (setBlock)

/-- What the document's pinning answers, by the routine. -/
def PinPost (s0 : PPin) (Q : List PGot) (w : World) (tb : Nat) (A : Option Addr) (cc : Nat) (e : Ending) (w' : World) : Prop :=
  ∃ T' p ep tk, e = .returned (.agg #[.int .i64 p, .int .u64 ep, .bool tk]) ∧ TapeIn w' tb A cc T' ∧
    T'.over = (feed PPin.take s0 Q).act.2 ∧ T'.act = (feed PPin.take s0 Q).act.1 ∧ (T'.over = false → (p, ep, tk) = (feed PPin.take s0 Q).result.1) ∧ Chg (fun k => k = tb) w w'
def pin2 (c : PCfg) (th : Int) (k : Nat) (e : Int) : PPin := ⟨c, th % c.pins, k, 2, 0, e, false⟩
def pin3 (c : PCfg) (th : Int) (k : Nat) (e : Int) : PPin := ⟨c, th % c.pins, k, 3, 0, e, false⟩
def pin4 (c : PCfg) (th : Int) (k : Nat) (e : Int) : PPin := ⟨c, th % c.pins, k, 4, 0, e, false⟩
def pin5 (c : PCfg) (th : Int) (k : Nat) (e : Int) : PPin := ⟨c, th % c.pins, k, 5, 0, e, true⟩
theorem pin_ended {s0 : PPin} {Q : List PGot} {T : PTape} (h : Ended PPin.act PPin.take s0 Q T) {w w' : World} {tb cc : Nat} {A : Option Addr} (p ep : Int) (tk : Bool) (hT : TapeIn w' tb A cc T) (hC : Chg (fun k => k = tb) w w') :
    PinPost s0 Q w tb A cc (.returned (.agg #[.int .i64 p, .int .u64 ep, .bool tk])) w' :=
  ⟨T, p, ep, tk, rfl, hT, by rw [h.act]; exact h.over, by rw [h.act], fun e => (by rw [h.over] at e; cases e), hC⟩
theorem pin_fed {s0 s : PPin} {Q : List PGot} {T : PTape} (h : Fed PPin.take s0 Q T s) (hp : s.part = 5) {w w' : World} {tb cc : Nat} {A : Option Addr} (hT : TapeIn w' tb A cc T) (hC : Chg (fun k => k = tb) w w') :
    PinPost s0 Q w tb A cc (.returned (.agg #[.int .i64 s.pin, .int .u64 s.epoch, .bool s.taken])) w' := by
  have hd := h.done fun g => PPin.take5 hp g
  exact ⟨T, s.pin, s.epoch, s.taken, rfl, hT, by rw [hd, PPin.act5 hp]; exact h.over, by rw [hd, PPin.act5 hp]; exact h.act, fun _ => by rw [hd, PPin.result5 hp], hC⟩
def tapeV (len : Nat) (T : PTape) : Nat := 2 * (len - T.at_) + (if T.over then 0 else 1)
/-- Between two rounds of the outer loop. -/
structure PinRel (w : World) (tb : Nat) (A : Option Addr) (cc : Nat) (c : PCfg) (th : Int) (Q : List PGot) (ev iv : Value) (wr : World) : Prop where
  ex : ∃ (T : PTape) (k : Nat) (x : Int), ev = .int .u64 x ∧ iv = .int .i64 k ∧ (k : Int) ≤ c.pins ∧ (0 ≤ x ∧ x ≤ 18446744073709551615) ∧ TapeIn wr tb A cc T ∧ T.got = Q ∧
    (Ended PPin.act PPin.take (newPin c th) Q T ∨ (Fed PPin.take (newPin c th) Q T (pin2 c th k x) ∧ (k : Int) < c.pins) ∨ (Fed PPin.take (newPin c th) Q T (pin5 c th k 0) ∧ (k : Int) = c.pins))
  chg : Chg (fun k => k = tb) w wr
  b0 : Blk wr w.heap.size 24 #[.int .i64 c.cap, .int .i64 c.pins, .int .i64 c.shelves, .int .i64 c.queue, .int .i64 c.watchers, .int .u64 c.seed]
  b1 : Blk wr (w.heap.size + 1) 100 #[.int .i64 0, .int .u64 0, .bool false]
/-- Between two rounds of the inner loop. -/
structure PinIn3 (w : World) (tb : Nat) (A : Option Addr) (cc : Nat) (c : PCfg) (th : Int) (Q : List PGot) (k M : Nat) (ev : Value) (wr : World) : Prop where
  ex : ∃ (T : PTape) (x : Int), ev = .int .u64 x ∧ (0 ≤ x ∧ x ≤ 18446744073709551615) ∧ TapeIn wr tb A cc T ∧ T.got = Q ∧ tapeV Q.length T < M ∧
    (Ended PPin.act PPin.take (newPin c th) Q T ∨ Fed PPin.take (newPin c th) Q T (pin3 c th k x))
  chg : Chg (fun k => k = tb) w wr
  b0 : Blk wr w.heap.size 24 #[.int .i64 c.cap, .int .i64 c.pins, .int .i64 c.shelves, .int .i64 c.queue, .int .i64 c.watchers, .int .u64 c.seed]
  b1 : Blk wr (w.heap.size + 1) 100 #[.int .i64 0, .int .u64 0, .bool false]
set_option maxRecDepth 100000 in
set_option maxHeartbeats 8000000 in
theorem refPin_any {w : World} {tb cc : Nat} {A : Option Addr} {T : PTape} (h : TapeIn w tb A cc T) (h0 : T.over = false) (h1 : T.at_ = 0) (h2 : T.act = noAct) (c : PCfg) (hc : c.Right) (th : Int) (hth : 0 ≤ th ∧ th ≤ 9223372036854775807) (hok : ∀ g ∈ T.got, g.Ok) :
    Calls Tryz.prog 42 #[.pointer (some ⟨tb, 0, none⟩), c.val, .int .i64 th] w (PinPost (newPin c th) T.got w tb A cc) := by
  have F0 := Fed.start (take := PPin.take) (newPin c th) T.got T h0 h1 h2 rfl
  generalize hQ : T.got = Q at *
  have ha0 : PPin.act (newPin c th) = (⟨1, 1, 0, 0, 0, ByteArray.empty⟩, true) := PPin.act1 (.inl rfl)
  have hlt := h.blk.lt
  have hz : Below w.heap.size w ((w.alloc (.cells #[.int .i64 c.cap, .int .i64 c.pins, .int .i64 c.shelves, .int .i64 c.queue, .int .i64 c.watchers, .int .u64 c.seed] 24)).alloc (.cells #[.int .i64 0, .int .u64 0, .bool false] 100)) := ((Below.refl _ _).alloc (Nat.le_refl _) _).alloc (by simp) _
  have hC0 := tape_load (h.below hz) 1 0
  have hK := Chg.of_below hz (fun k => k = tb)
  have B0 := (Blk.new w 24 #[.int .i64 c.cap, .int .i64 c.pins, .int .i64 c.shelves, .int .i64 c.queue, .int .i64 c.watchers, .int .u64 c.seed]).alloc (.cells #[.int .i64 0, .int .u64 0, .bool false] 100)
  have B1 := Blk.new (w.alloc (.cells #[.int .i64 c.cap, .int .i64 c.pins, .int .i64 c.shelves, .int .i64 c.queue, .int .i64 c.watchers, .int .u64 c.seed] 24)) 100 #[.int .i64 0, .int .u64 0, .bool false]
  simp only [World.size_alloc] at B1
  have hp := hc.pins
  have hAt := fun (k : Nat) (hk : (k : Int) < c.pins) W => refPinAt c hc k hk W
  rw [show c.val = .agg #[.int .i64 c.cap, .int .i64 c.pins, .int .i64 c.shelves, .int .i64 c.queue, .int .i64 c.watchers, .int .u64 c.seed] from rfl] at hAt ⊢
  have fx := F0.go2 ha0
  rcases hx : T.doAct ⟨1, 1, 0, 0, 0, ByteArray.empty⟩ with ⟨⟨gw, gt⟩, T1⟩
  rw [hx] at hC0 fx
  simp only at hC0
  have hm : th.tmod c.pins = th % c.pins := Int.tmod_eq_emod_of_nonneg hth.1
  have hp0 : ¬ c.pins = 0 := by omega
  have hp1 : ¬ c.pins = -1 := by omega
  have hpp : 0 < c.pins := by omega
  have hpz : (c.pins == 0) = false := by rw [beq_eq_false_iff_ne]; omega
  have hf0 := Int.emod_nonneg th (b := c.pins) (by omega)
  have hf1 := Int.emod_lt_of_pos th (b := c.pins) (by omega)
  replace h := Lib.hid h
  replace F0 := Lib.hid F0
  replace hx := Lib.hid hx
  replace hC0 := Lib.hid hC0
  replace hK := Lib.hid hK
  replace B0 := Lib.hid B0
  replace B1 := Lib.hid B1
  replace fx := Lib.hid fx
  replace ha0 := Lib.hid ha0
  replace hQ := Lib.hid hQ
  replace hz := Lib.hid hz
  replace hAt := Lib.hid hAt
  clear h0 h1 h2
  go_enter Tryz.func42, Tryz.ntmps42
  go_wp2_with fail
  refine (hC0.out).mono ?_; rintro e w1 ⟨rfl, hT1, hC1⟩
  have hsz := hC1.size
  simp only [World.size_alloc] at hsz
  have b0 := B0.out.keep (hC1.block w.heap.size (by simp; omega) (by omega))
  have b1 := B1.out.keep (hC1.block (w.heap.size + 1) (by simp) (by omega))
  have hK1 := hK.out.trans hC1 fun i hi => Or.inl hi
  replace hT1 := Lib.hid hT1
  replace hC1 := Lib.hid hC1
  replace b0 := Lib.hid b0
  replace b1 := Lib.hid b1
  replace hK1 := Lib.hid hK1
  go_wp2_with fail
  go_loopw [7, 8] (fun ev iv wr => PinRel w tb A cc c th Q ev iv wr) (fun _ _ wr => tapeM tb Q.length wr)
  case atStart =>
    rcases fx.out with ⟨g, hg, e, hF⟩ | ⟨e, hE, hS⟩
    · injection e with e1 e2
      subst e1 e2
      have hgw : PGot.Ok ⟨gw, gt⟩ := hok _ (List.mem_of_getElem? hg)
      have ht : PPin.take (newPin c th) ⟨gw, gt⟩ = pin2 c th 0 gw := PPin.take1 rfl _
      rw [ht] at hF
      exact ⟨⟨_, 0, gw, rfl, rfl, by show (0 : Int) ≤ c.pins; omega, hgw, hT1.out, hF.got, .inr (.inl ⟨hF, by show (0 : Int) < c.pins; omega⟩)⟩, hK1.out, b0.out, b1.out⟩
    · injection e with e1 e2
      injection e1 with e1 e3
      subst e1 e2
      exact ⟨⟨_, 0, 0, rfl, rfl, by show (0 : Int) ≤ c.pins; omega, ⟨Int.le_refl _, by decide⟩, hT1.out, hE.got, .inl hE⟩, hK1.out, b0.out, b1.out⟩
  case round =>
    obtain ⟨⟨T2, k, x, rfl, rfl, hkp, hx0, hT2, hQ2, hcase⟩, hK2, b02, b12⟩ := hrel
    have t2 : wr.cell? ⟨tb, 2, none⟩ = some (.bool T2.over) := hT2.blk.cell 2
    have hm2 := tapeM_eq hT2 Q.length
    have c0 := b02.cell 0
    have c1 := b02.cell 1
    have c2 := b02.cell 2
    have c3 := b02.cell 3
    have c4 := b02.cell 4
    have c5 := b02.cell 5
    have r0 := b12.cell 0
    have r1 := b12.cell 1
    have r2 := b12.cell 2
    have fr0 := b12.frozen 0
    have fr1 := b12.frozen 1
    have fr2 := b12.frozen 2
    have hs2 := b12.lt
    have htl := hT2.blk.lt
    replace b02 := Lib.hid b02
    replace b12 := Lib.hid b12
    replace hK2 := Lib.hid hK2
    replace hQ2 := Lib.hid hQ2
    replace hm2 := Lib.hid hm2
    rcases hcase with hE | ⟨hF, hkl⟩ | ⟨hF, hke⟩
    · rw [hE.over] at t2
      replace hT2 := Lib.hid hT2
      replace hE := Lib.hid hE
      by_cases hkl : (k : Int) < c.pins
      · have d2 : decide ((k : Int) < c.pins) = true := by simp; omega
        replace hkl := Lib.hid hkl
        as_aux_lemma =>
          go_wp2_with fail
          refine gen_world (α := fun W' => bodyPost _ _ _ _ _ W') (fun W' => Blk W' (w.heap.size + 1) 100 #[.int .i64 0, .int .u64 0, .bool true] ∧ TapeIn W' tb A cc T2 ∧ Chg (fun k => k = tb) w W') ⟨?_, ?_, ?_⟩ ?_
          · exact Blk.eq_cs (((b12.out.set_ 0 _).set_ 1 _).set_ 2 _) rfl
          · exact ((hT2.out.set_far (by show tb < w.heap.size + 1; omega) _).set_far (by show tb < w.heap.size + 1; omega) _).set_far (by show tb < w.heap.size + 1; omega) _
          · exact ((hK2.out.setCell (.inr (by show w.heap.size ≤ w.heap.size + 1; omega)) _).setCell (.inr (by show w.heap.size ≤ w.heap.size + 1; omega)) _).setCell (.inr (by show w.heap.size ≤ w.heap.size + 1; omega)) _
          rintro W' ⟨g1, g2, g3⟩
          have e0 := g1.cell 0
          have e1 := g1.cell 1
          have e2 := g1.cell 2
          refine bodyPost_ret (v := .agg #[.int .i64 0, .int .u64 0, .bool true]) (by simp [results, Tryz.results42, go_sem, e0, e1, e2]) rfl ?_
          exact pin_ended hE.out 0 0 true g2 g3
      · have d2 : decide ((k : Int) < c.pins) = false := by simp; omega
        replace hkl := Lib.hid hkl
        as_aux_lemma =>
          go_wp2_with fail
          refine gen_world (α := fun W' => bodyPost _ _ _ _ _ W') (fun W' => Blk W' (w.heap.size + 1) 100 #[.int .i64 0, .int .u64 0, .bool true] ∧ TapeIn W' tb A cc T2 ∧ Chg (fun k => k = tb) w W') ⟨?_, ?_, ?_⟩ ?_
          · exact Blk.eq_cs (((b12.out.set_ 0 _).set_ 1 _).set_ 2 _) rfl
          · exact ((hT2.out.set_far (by show tb < w.heap.size + 1; omega) _).set_far (by show tb < w.heap.size + 1; omega) _).set_far (by show tb < w.heap.size + 1; omega) _
          · exact ((hK2.out.setCell (.inr (by show w.heap.size ≤ w.heap.size + 1; omega)) _).setCell (.inr (by show w.heap.size ≤ w.heap.size + 1; omega)) _).setCell (.inr (by show w.heap.size ≤ w.heap.size + 1; omega)) _
          rintro W' ⟨g1, g2, g3⟩
          have e0 := g1.cell 0
          have e1 := g1.cell 1
          have e2 := g1.cell 2
          refine bodyPost_ret (v := .agg #[.int .i64 0, .int .u64 0, .bool true]) (by simp [results, Tryz.results42, go_sem, e0, e1, e2]) rfl ?_
          exact pin_ended hE.out 0 0 true g2 g3
    · have hEo := hF.over
      rw [hEo] at t2
      have d2 : decide ((k : Int) < c.pins) = true := by simp; omega
      have hw : IntKind.i64.wrap (th % c.pins + k) = th % c.pins + k := IntWalk.i64_in _ (by omega)
      obtain ⟨a, ha⟩ : ∃ a : Nat, (th % c.pins + k) % c.pins = a := ⟨((th % c.pins + k) % c.pins).toNat, by have := Int.emod_nonneg (th % c.pins + k) (b := c.pins) (by omega); omega⟩
      have hal : (a : Int) < c.pins := by rw [← ha]; exact Int.emod_lt_of_pos _ (by omega)
      have hmm : (th % c.pins + k).tmod c.pins = a := by rw [Int.tmod_eq_emod_of_nonneg (by omega), ha]
      have hAtk := fun W => hAt.out a hal W
      have hsA : PPin.act (pin2 c th k x) = (⟨3, 1, ((3 + a : Nat) : Int), 0, IntKind.u64.wrap (x + 1), ByteArray.empty⟩, true) := PPin.act2 rfl a ha
      have fx2 := hF.go2 hsA
      have hSw := fun W (hb : Below wr.heap.size wr W) => tape_swap (hT2.below hb) 1 ((3 + a : Nat) : Int) 0 (IntKind.u64.wrap (x + 1))
      rcases hx2 : T2.doAct ⟨3, 1, ((3 + a : Nat) : Int), 0, IntKind.u64.wrap (x + 1), ByteArray.empty⟩ with ⟨⟨qw, qt⟩, T3⟩
      rw [hx2] at hSw fx2
      simp only at hSw
      have hnx : (qw ≠ 0 ∧ (0 ≤ qw ∧ qw ≤ 18446744073709551615) ∧ T3.got = Q ∧ tapeV Q.length T3 < tapeV Q.length T2 ∧ ((Fed PPin.take (newPin c th) Q T3 (pin2 c th (k + 1) x) ∧ ((k + 1 : Nat) : Int) < c.pins) ∨ (Fed PPin.take (newPin c th) Q T3 (pin5 c th (k + 1) 0) ∧ ((k + 1 : Nat) : Int) = c.pins))) ∨
          (qw = 0 ∧ T3.got = Q ∧ tapeV Q.length T3 < tapeV Q.length T2 ∧ (Ended PPin.act PPin.take (newPin c th) Q T3 ∨ Fed PPin.take (newPin c th) Q T3 (pin3 c th k x))) := by
        rcases fx2 with ⟨g, hg, e, hF3⟩ | ⟨e, hE, hS⟩
        · injection e with e1 e2
          subst e1
          have hatl := (List.getElem?_eq_some_iff.mp hg).1
          have hqw : PGot.Ok ⟨qw, qt⟩ := hok _ (List.mem_of_getElem? hg)
          rw [← e2] at hF3
          have hlt3 : tapeV Q.length T3 < tapeV Q.length T2 := by rw [e2]; unfold tapeV; simp only [hEo]; simp; omega
          by_cases hq : qw = 0
          · right
            have htk : PPin.take (pin2 c th k x) ⟨qw, qt⟩ = pin3 c th k x := PPin.take2a rfl _ hq
            rw [htk] at hF3
            exact ⟨hq, hF3.got, hlt3, .inr hF3⟩
          · left
            refine ⟨hq, hqw, hF3.got, hlt3, ?_⟩
            by_cases hk1 : ((k + 1 : Nat) : Int) = c.pins
            · right
              have htk : PPin.take (pin2 c th k x) ⟨qw, qt⟩ = pin5 c th (k + 1) 0 := PPin.take2b rfl _ hq (by show (k : Int) + 1 = c.pins; omega)
              rw [htk] at hF3
              exact ⟨hF3, hk1⟩
            · left
              have htk : PPin.take (pin2 c th k x) ⟨qw, qt⟩ = pin2 c th (k + 1) x := PPin.take2c rfl _ hq (by show ¬ (k : Int) + 1 = c.pins; omega)
              rw [htk] at hF3
              exact ⟨hF3, by omega⟩
        · injection e with e1 e2
          injection e1 with e1 e3
          subst e1
          rw [← e2] at hE
          refine .inr ⟨rfl, hE.got, ?_, .inl hE⟩
          rw [e2]
          unfold tapeV
          simp [hEo]
      clear fx2 hx2 hF
      have hMv : tapeM tb Q.length wr = tapeV Q.length T2 := hm2.out
      replace hMv := Lib.hid hMv
      replace hT2 := Lib.hid hT2
      replace hAtk := Lib.hid hAtk
      replace hSw := Lib.hid hSw
      replace hsA := Lib.hid hsA
      replace ha := Lib.hid ha
      replace hnx := Lib.hid hnx
      go_wp2_with fail
      go_quiet (fail)
      go_wp2_with fail
      have K0 := b02.out.drewN nq
      refine (hAtk.out _).mono ?_; rintro e w3 ⟨rfl, hb3⟩
      have hb3' : Below wr.heap.size wr w3 := (below_drewN (Below.refl _ _) nq).trans hb3
      have b03 := b02.out.below hb3' b02.out.lt
      have b13 := b12.out.below hb3' b12.out.lt
      have hK3 := hK2.out.next_ hb3'
      clear hb3 K0 c0 c1 c2 c3 c4 c5 r0 r1 r2 fr0 fr1 fr2 t2
      replace hb3' := Lib.hid hb3'
      replace b03 := Lib.hid b03
      replace b13 := Lib.hid b13
      replace hK3 := Lib.hid hK3
      rcases hnx.out with ⟨hq0, hqb, hg3, hv3, hnext⟩ | ⟨rfl, hg3, hv3, hnext⟩
      · as_aux_lemma =>
          have d3 : (qw == 0) = false := by simp [hq0]
          replace hq0 := Lib.hid hq0
          go_wp2_with fail
          refine (hSw.out _ hb3'.out).mono ?_; rintro e w4 ⟨rfl, hT4, hC4⟩
          have b04 := b03.out.keep (hC4.block _ b03.out.lt (by omega))
          have b14 := b13.out.keep (hC4.block _ b13.out.lt (by omega))
          have hK4 := hK3.out.trans hC4 fun i hi => Or.inl hi
          replace hT4 := Lib.hid hT4
          replace hC4 := Lib.hid hC4
          replace b04 := Lib.hid b04
          replace b14 := Lib.hid b14
          replace hK4 := Lib.hid hK4
          go_wp2_with fail
          go_roundw
          case rel => exact ⟨⟨T3, k + 1, x, rfl, by go_num, by omega, hx0, hT4.out, hg3, .inr hnext⟩, hK4.out, b04.out, b14.out⟩
          case measure =>
            rw [hMv.out, tapeM_eq hT4.out]
            exact hv3
      · go_wp2_with fail
        refine (hSw.out _ hb3'.out).mono ?_; rintro e w4 ⟨rfl, hT4, hC4⟩
        have b04 := b03.out.keep (hC4.block _ b03.out.lt (by omega))
        have b14 := b13.out.keep (hC4.block _ b13.out.lt (by omega))
        have hK4 := hK3.out.trans hC4 fun i hi => Or.inl hi
        replace hT4 := Lib.hid hT4
        replace hC4 := Lib.hid hC4
        replace b04 := Lib.hid b04
        replace b14 := Lib.hid b14
        replace hK4 := Lib.hid hK4
        have hin : PinIn3 w tb A cc c th Q k (tapeV Q.length T2) (.int .u64 x) w4 := ⟨⟨T3, x, rfl, hx0, hT4.out, hg3, hv3, hnext⟩, hK4.out, b04.out, b14.out⟩
        replace hin := Lib.hid hin
        clear hnext hv3 hg3
        go_wp2_with fail
        go_loopw [7] (fun ev wr => PinIn3 w tb A cc c th Q k (tapeV Q.length T2) ev wr) (fun _ wr => tapeM tb Q.length wr)
        case atStart => exact hin.out
        case round =>
          clear hin hT4 hC4 b04 b14 hK4 hSw hAtk
          obtain ⟨⟨T5, y, rfl, hy, hT5, hg5, hv5, hcase5⟩, hK5, b05, b15⟩ := hrel
          have t2 : wr.cell? ⟨tb, 2, none⟩ = some (.bool T5.over) := hT5.blk.cell 2
          have hm5 := tapeM_eq hT5 Q.length
          have htl5 := hT5.blk.lt
          replace b05 := Lib.hid b05
          replace b15 := Lib.hid b15
          replace hK5 := Lib.hid hK5
          replace hm5 := Lib.hid hm5
          rcases hcase5 with hE | hF
          · as_aux_lemma =>
              rw [hE.over] at t2
              replace hE := Lib.hid hE
              replace hT5 := Lib.hid hT5
              go_wp2_with fail
              go_roundw
              case rel => exact ⟨⟨T5, k + 1, y, rfl, by go_num, by omega, hy, hT5.out, hg5, .inl hE.out⟩, hK5.out, b05.out, b15.out⟩
              case measure =>
                rw [hMv.out, tapeM_eq hT5.out]
                exact hv5
          · have hEo5 := hF.over
            rw [hEo5] at t2
            have hs3 : PPin.act (pin3 c th k y) = (⟨1, 1, 0, 0, 0, ByteArray.empty⟩, true) := PPin.act1 (.inr rfl)
            have fx5 := hF.go2 hs3
            have hLd := tape_load hT5 1 0
            rcases hx5 : T5.doAct ⟨1, 1, 0, 0, 0, ByteArray.empty⟩ with ⟨⟨qw, qt⟩, T6⟩
            rw [hx5] at hLd fx5
            simp only at hLd
            replace hT5 := Lib.hid hT5
            replace hLd := Lib.hid hLd
            replace hx5 := Lib.hid hx5
            replace hF := Lib.hid hF
            replace hs3 := Lib.hid hs3
            rcases fx5 with ⟨g, hg, e, hF6⟩ | ⟨e, hE6, hS6⟩
            · injection e with e1 e2
              subst e1
              have hqw : PGot.Ok ⟨qw, qt⟩ := hok _ (List.mem_of_getElem? hg)
              have hqw1 : 0 ≤ qw := hqw.1
              have hqw2 : qw ≤ 18446744073709551615 := hqw.2
              have hatl := (List.getElem?_eq_some_iff.mp hg).1
              have hT6o : T6.over = false := by rw [e2]; exact hEo5
              rw [← e2] at hF6
              have hv6 : tapeV Q.length T6 < tapeV Q.length T5 := by rw [e2]; unfold tapeV; simp only [hEo5]; simp; omega
              replace hF6 := Lib.hid hF6
              replace e2 := Lib.hid e2
              replace hg := Lib.hid hg
              go_wp2_with fail
              refine (hLd.out).mono ?_; rintro e w6 ⟨rfl, hT6, hC6⟩
              have t26 : w6.cell? ⟨tb, 2, none⟩ = some (.bool T6.over) := hT6.blk.cell 2
              rw [hT6o] at t26
              have b06 := b05.out.keep (hC6.block _ b05.out.lt (by omega))
              have b16 := b15.out.keep (hC6.block _ b15.out.lt (by omega))
              have hK6 := hK5.out.trans hC6 fun i hi => Or.inl hi
              clear t2
              replace hC6 := Lib.hid hC6
              replace b06 := Lib.hid b06
              replace hK6 := Lib.hid hK6
              by_cases hqy : qw = y
              · have d5 : (qw == y) = true := by simp [hqy]
                have q0 := b16.cell 0
                have q1 := b16.cell 1
                have q2 := b16.cell 2
                have qf0 := b16.frozen 0
                have qf1 := b16.frozen 1
                have qf2 := b16.frozen 2
                have htk : PPin.take (pin3 c th k y) ⟨qw, qt⟩ = ⟨c, th % c.pins, k, 5, a, y, false⟩ := by
                  rw [PPin.take3a rfl _ hqy]
                  show (⟨c, th % c.pins, k, 5, (th % c.pins + k) % c.pins, y, false⟩ : PPin) = _
                  rw [ha.out]
                have hF7 := hF6.out
                rw [htk] at hF7
                replace hF7 := Lib.hid hF7
                replace hqy := Lib.hid hqy
                replace htk := Lib.hid htk
                replace hT6 := Lib.hid hT6
                replace b16 := Lib.hid b16
                go_wp2_with fail
                refine gen_world (α := fun W' => bodyPost _ _ _ _ _ W') (fun W' => Blk W' (w.heap.size + 1) 100 #[.int .i64 a, .int .u64 y, .bool false] ∧ TapeIn W' tb A cc T6 ∧ Chg (fun k => k = tb) w W') ⟨?_, ?_, ?_⟩ ?_
                · exact Blk.eq_cs (((b16.out.set_ 0 _).set_ 1 _).set_ 2 _) rfl
                · exact ((hT6.out.set_far (by show tb < w.heap.size + 1; omega) _).set_far (by show tb < w.heap.size + 1; omega) _).set_far (by show tb < w.heap.size + 1; omega) _
                · exact ((hK6.out.setCell (.inr (by show w.heap.size ≤ w.heap.size + 1; omega)) _).setCell (.inr (by show w.heap.size ≤ w.heap.size + 1; omega)) _).setCell (.inr (by show w.heap.size ≤ w.heap.size + 1; omega)) _
                rintro W' ⟨g1, g2, g3⟩
                have e0 := g1.cell 0
                have e1 := g1.cell 1
                have e2 := g1.cell 2
                refine bodyPost_ret (v := .agg #[.int .i64 a, .int .u64 y, .bool false]) (by simp [results, Tryz.results42, go_sem, e0, e1, e2]) rfl ?_
                exact pin_fed hF7.out rfl g2 g3
              · have d5 : (qw == y) = false := by simp [hqy]
                have htk : PPin.take (pin3 c th k y) ⟨qw, qt⟩ = pin4 c th k qw := PPin.take3b rfl _ hqy
                have hF7 := hF6.out
                rw [htk] at hF7
                have hs4 : PPin.act (pin4 c th k qw) = (⟨2, 1, ((3 + a : Nat) : Int), 0, IntKind.u64.wrap (qw + 1), ByteArray.empty⟩, true) := PPin.act4 rfl a ha.out
                have fx7 := hF7.go2 hs4
                have hSt := tape_store hT6 1 ((3 + a : Nat) : Int) (IntKind.u64.wrap (qw + 1))
                rcases hx7 : T6.doAct ⟨2, 1, ((3 + a : Nat) : Int), 0, IntKind.u64.wrap (qw + 1), ByteArray.empty⟩ with ⟨⟨zw, zt⟩, T7⟩
                rw [hx7] at hSt fx7
                simp only at hSt
                have hnx7 : T7.got = Q ∧ tapeV Q.length T7 < tapeV Q.length T6 ∧ (Ended PPin.act PPin.take (newPin c th) Q T7 ∨ Fed PPin.take (newPin c th) Q T7 (pin3 c th k qw)) := by
                  rcases fx7 with ⟨g7, hg7, e7, hF8⟩ | ⟨e7, hE7, hS7⟩
                  · injection e7 with e71 e72
                    have hatl7 := (List.getElem?_eq_some_iff.mp hg7).1
                    rw [← e72] at hF8
                    rw [show PPin.take (pin4 c th k qw) g7 = pin3 c th k qw from PPin.take4 rfl _] at hF8
                    refine ⟨hF8.got, ?_, .inr hF8⟩
                    rw [e72]; unfold tapeV; simp only [hT6o]; simp; omega
                  · injection e7 with e71 e72
                    rw [← e72] at hE7
                    refine ⟨hE7.got, ?_, .inl hE7⟩
                    rw [e72]; unfold tapeV; simp [hT6o]
                clear fx7 hx7
                replace hnx7 := Lib.hid hnx7
                replace hF7 := Lib.hid hF7
                replace hs4 := Lib.hid hs4
                replace hSt := Lib.hid hSt
                replace htk := Lib.hid htk
                replace hT6 := Lib.hid hT6
                replace b16 := Lib.hid b16
                replace hqy := Lib.hid hqy
                go_wp2_with fail
                refine (hSt.out).mono ?_; rintro e w7 ⟨rfl, hT7, hC7⟩
                have b07 := b06.out.keep (hC7.block _ b06.out.lt (by omega))
                have b17 := b16.out.keep (hC7.block _ b16.out.lt (by omega))
                have hK7 := hK6.out.trans hC7 fun i hi => Or.inl hi
                obtain ⟨z1, z2, z3⟩ := hnx7.out
                replace hT7 := Lib.hid hT7
                replace hC7 := Lib.hid hC7
                replace b07 := Lib.hid b07
                replace b17 := Lib.hid b17
                replace hK7 := Lib.hid hK7
                go_wp2_with fail
                go_roundw
                case rel => exact ⟨⟨T7, qw, rfl, ⟨hqw1, hqw2⟩, hT7.out, z1, by omega, z3⟩, hK7.out, b07.out, b17.out⟩
                case measure =>
                  rw [hm5.out, tapeM_eq hT7.out]
                  show tapeV Q.length T7 < tapeV Q.length T5
                  omega
            · injection e with e1 e2
              injection e1 with e1 e1'
              subst e1
              have hT6o : T6.over = true := by rw [e2]
              rw [← e2] at hE6
              replace hE6 := Lib.hid hE6
              replace hS6 := Lib.hid hS6
              replace e2 := Lib.hid e2
              go_wp2_with fail
              refine (hLd.out).mono ?_; rintro e w6 ⟨rfl, hT6, hC6⟩
              have t26 : w6.cell? ⟨tb, 2, none⟩ = some (.bool T6.over) := hT6.blk.cell 2
              rw [hT6o] at t26
              have b06 := b05.out.keep (hC6.block _ b05.out.lt (by omega))
              have b16 := b15.out.keep (hC6.block _ b15.out.lt (by omega))
              have hK6 := hK5.out.trans hC6 fun i hi => Or.inl hi
              have q0 := b16.cell 0
              have q1 := b16.cell 1
              have q2 := b16.cell 2
              have qf0 := b16.frozen 0
              have qf1 := b16.frozen 1
              have qf2 := b16.frozen 2
              clear t2
              replace hT6 := Lib.hid hT6
              replace hC6 := Lib.hid hC6
              replace b06 := Lib.hid b06
              replace b16 := Lib.hid b16
              replace hK6 := Lib.hid hK6
              go_wp2_with fail
              refine gen_world (α := fun W' => bodyPost _ _ _ _ _ W') (fun W' => Blk W' (w.heap.size + 1) 100 #[.int .i64 a, .int .u64 y, .bool false] ∧ TapeIn W' tb A cc T6 ∧ Chg (fun k => k = tb) w W') ⟨?_, ?_, ?_⟩ ?_
              · exact Blk.eq_cs (((b16.out.set_ 0 _).set_ 1 _).set_ 2 _) rfl
              · exact ((hT6.out.set_far (by show tb < w.heap.size + 1; omega) _).set_far (by show tb < w.heap.size + 1; omega) _).set_far (by show tb < w.heap.size + 1; omega) _
              · exact ((hK6.out.setCell (.inr (by show w.heap.size ≤ w.heap.size + 1; omega)) _).setCell (.inr (by show w.heap.size ≤ w.heap.size + 1; omega)) _).setCell (.inr (by show w.heap.size ≤ w.heap.size + 1; omega)) _
              rintro W' ⟨g1, g2, g3⟩
              have e0 := g1.cell 0
              have e1 := g1.cell 1
              have e2 := g1.cell 2
              refine bodyPost_ret (v := .agg #[.int .i64 a, .int .u64 y, .bool false]) (by simp [results, Tryz.results42, go_sem, e0, e1, e2]) rfl ?_
              exact pin_ended hE6.out a y false g2 g3
    · rw [hF.over] at t2
      have d2 : decide ((k : Int) < c.pins) = false := by simp; omega
      replace hT2 := Lib.hid hT2
      replace hF := Lib.hid hF
      replace hke := Lib.hid hke
      as_aux_lemma =>
        go_wp2_with fail
        refine gen_world (α := fun W' => bodyPost _ _ _ _ _ W') (fun W' => Blk W' (w.heap.size + 1) 100 #[.int .i64 0, .int .u64 0, .bool true] ∧ TapeIn W' tb A cc T2 ∧ Chg (fun k => k = tb) w W') ⟨?_, ?_, ?_⟩ ?_
        · exact Blk.eq_cs (((b12.out.set_ 0 _).set_ 1 _).set_ 2 _) rfl
        · exact ((hT2.out.set_far (by show tb < w.heap.size + 1; omega) _).set_far (by show tb < w.heap.size + 1; omega) _).set_far (by show tb < w.heap.size + 1; omega) _
        · exact ((hK2.out.setCell (.inr (by show w.heap.size ≤ w.heap.size + 1; omega)) _).setCell (.inr (by show w.heap.size ≤ w.heap.size + 1; omega)) _).setCell (.inr (by show w.heap.size ≤ w.heap.size + 1; omega)) _
        rintro W' ⟨g1, g2, g3⟩
        have e0 := g1.cell 0
        have e1 := g1.cell 1
        have e2 := g1.cell 2
        refine bodyPost_ret (v := .agg #[.int .i64 0, .int .u64 0, .bool true]) (by simp [results, Tryz.results42, go_sem, e0, e1, e2]) rfl ?_
        exact pin_fed hF.out rfl g2 g3
end Go.Proofs.YtmlnhjfdhjachaaGreat

/-
  A routine within another one, answered from a tape from some place on: how both go on side by side. No condition.
-/
namespace Go.Proofs.YtmlnhjfdhjachaaGreat
set_option linter.unusedVariables false
open Go.ChangeShapes Go.WideShapes Go.ChangeAt Go.RowKit
open Go.ChangeMaps (setBlock)

section
variable {σ : Type}
/-- The tape isn't over; a routine began at the place a, and stands where the tape does; it had an act at each place before. -/
structure FedA (a : Nat) (act : σ → PAct × Bool) (take : σ → PGot → σ) (s0 : σ) (Q : List PGot) (T : PTape) (s : σ) : Prop where
  over : T.over = false
  got : T.got = Q
  low : a ≤ T.at_
  at_ : T.at_ ≤ Q.length
  idle : T.act = noAct
  st : s = feed take s0 ((Q.drop a).take (T.at_ - a))
  live : ∀ i, i < T.at_ - a → (act (feed take s0 ((Q.drop a).take i))).2 = true
/-- The tape is over: the act that is next is the routine's. -/
structure EndedA (a : Nat) (act : σ → PAct × Bool) (take : σ → PGot → σ) (s0 : σ) (Q : List PGot) (T : PTape) : Prop where
  over : T.over = true
  got : T.got = Q
  low : a ≤ Q.length
  at_ : T.at_ ≤ Q.length
  next : act (feed take s0 (Q.drop a)) = (T.act, true)
  live : ∀ i, i < Q.length - a → (act (feed take s0 ((Q.drop a).take i))).2 = true
/-- What is known of a tape that is over. -/
structure Ends (a : Nat) (act : σ → PAct × Bool) (take : σ → PGot → σ) (s0 : σ) (Q : List PGot) (E : PTape → Prop) : Prop where
  over : ∀ T, E T → T.over = true
  got : ∀ T, E T → T.got = Q
  of : ∀ T, EndedA a act take s0 Q T → E T
variable {act : σ → PAct × Bool} {take : σ → PGot → σ}
theorem Ends.ended (a : Nat) (s0 : σ) (Q : List PGot) : Ends a act take s0 Q (EndedA a act take s0 Q) := ⟨fun _ h => h.over, fun _ h => h.got, fun _ h => h⟩
/-- A tape that is over at the start stays as it is. -/
theorem Ends.same (s0 : σ) {Q : List PGot} {T0 : PTape} (h : T0.over = true) (hq : T0.got = Q) : Ends (Q.length + 1) act take s0 Q (fun T => T = T0) :=
  ⟨fun _ e => by rw [e]; exact h, fun _ e => by rw [e]; exact hq, fun T e => absurd e.low (by omega)⟩
theorem FedA.not_far {s0 s : σ} {Q : List PGot} {T : PTape} (h : FedA (Q.length + 1) act take s0 Q T s) : False := by
  have := h.low
  have := h.at_
  omega
theorem FedA.start (s0 : σ) (Q : List PGot) (T : PTape) (h1 : T.over = false) (h2 : T.at_ ≤ Q.length) (h3 : T.act = noAct) (h4 : T.got = Q) : FedA T.at_ act take s0 Q T s0 :=
  ⟨h1, h4, Nat.le_refl _, h2, h3, by rw [Nat.sub_self]; rfl, fun i hi => absurd hi (by omega)⟩
theorem FedA.go2 {a : Nat} {s0 s : σ} {Q : List PGot} {T : PTape} (h : FedA a act take s0 Q T s) {x : PAct} (hx : act s = (x, true)) :
    (∃ g, Q[T.at_]? = some g ∧ T.doAct x = (g, { T with at_ := T.at_ + 1 }) ∧ FedA a act take s0 Q { T with at_ := T.at_ + 1 } (take s g)) ∨
    (T.doAct x = (noGot, { T with over := true, act := x }) ∧ EndedA a act take s0 Q { T with over := true, act := x } ∧ feed take s0 (Q.drop a) = s) := by
  have ho := h.over
  have hl := h.low
  cases hg : Q[T.at_]? with
  | some g =>
    left
    have hlt := (List.getElem?_eq_some_iff.mp hg).1
    have hg2 : (Q.drop a)[T.at_ - a]? = some g := by rw [List.getElem?_drop, show a + (T.at_ - a) = T.at_ by omega]; exact hg
    refine ⟨g, rfl, by simp [PTape.doAct, ho, h.got, hg], ho, h.got, by show a ≤ T.at_ + 1; omega, hlt, h.idle, ?_, ?_⟩
    · show take s g = feed take s0 ((Q.drop a).take (T.at_ + 1 - a))
      rw [show T.at_ + 1 - a = T.at_ - a + 1 by omega, feed_snoc s0 (Q.drop a) (T.at_ - a) g hg2, h.st]
    · intro i hi
      have hi' : i < T.at_ + 1 - a := hi
      rcases Nat.lt_or_ge i (T.at_ - a) with hlt2 | hge
      · exact h.live i hlt2
      · rw [show i = T.at_ - a by omega, ← h.st, hx]
  | none =>
    right
    have hlen := List.getElem?_eq_none_iff.mp hg
    have e : T.at_ = Q.length := by have := h.at_; omega
    have h1 : feed take s0 (Q.drop a) = s := by rw [h.st, List.take_of_length_le (by rw [List.length_drop]; omega)]
    refine ⟨by simp [PTape.doAct, ho, h.got, hg], ⟨rfl, h.got, by omega, h.at_, by rw [h1, hx], fun i hi => h.live i (by omega)⟩, h1⟩
theorem over_do {T : PTape} (h : T.over = true) (x : PAct) : T.doAct x = (noGot, T) := by simp [PTape.doAct, h]
/-- A routine within another one: while it has acts, the other one goes as it goes. -/
structure Within {τ : Type} (act : σ → PAct × Bool) (take : σ → PGot → σ) (actC : τ → PAct × Bool) (takeC : τ → PGot → τ) (emb : Nat → σ → τ) : Prop where
  hact : ∀ k s, (act s).2 = true → actC (emb k s) = act s
  htake : ∀ k s g, (act s).2 = true → takeC (emb k s) g = emb (k + 1) (take s g)
variable {τ : Type} {actC : τ → PAct × Bool} {takeC : τ → PGot → τ} {emb : Nat → σ → τ}
theorem within_feed (W : Within act take actC takeC emb) : ∀ (gs : List PGot) (k : Nat) (s : σ), (∀ i, i < gs.length → (act (feed take s (gs.take i))).2 = true) → feed takeC (emb k s) gs = emb (k + gs.length) (feed take s gs)
  | [], k, s, _ => rfl
  | g :: gs, k, s, h => by
    have h0 : (act s).2 = true := h 0 (by simp)
    show feed takeC (takeC (emb k s) g) gs = _
    rw [W.htake k s g h0, within_feed W gs (k + 1) (take s g) fun i hi => h (i + 1) (by simpa using hi)]
    rw [show k + (g :: gs).length = k + 1 + gs.length by simp; omega]
    rfl
theorem feed_append (s0 : σ) (xs ys : List PGot) : feed take s0 (xs ++ ys) = feed take (feed take s0 xs) ys := List.foldl_append
theorem drop_split (Q : List PGot) (d a k : Nat) (h1 : d ≤ a) (h2 : a ≤ Q.length) : (Q.drop d).take (a - d + k) = (Q.drop d).take (a - d) ++ (Q.drop a).take k := by
  rw [List.take_add, List.drop_drop, show d + (a - d) = a by omega]
theorem FedA.at_feed {d : Nat} {c0 : τ} {Q : List PGot} {T0 : PTape} {s0 : σ} (W : Within act take actC takeC emb) (h0 : FedA d actC takeC c0 Q T0 (emb T0.at_ s0)) (k : Nat) (hk : T0.at_ + k ≤ Q.length) (hl : ∀ i, i < k → (act (feed take s0 ((Q.drop T0.at_).take i))).2 = true) :
    feed takeC c0 ((Q.drop d).take (T0.at_ - d + k)) = emb (T0.at_ + k) (feed take s0 ((Q.drop T0.at_).take k)) := by
  have hlen : ((Q.drop T0.at_).take k).length = k := by simp; omega
  rw [drop_split Q d T0.at_ k h0.low h0.at_, feed_append, ← h0.st, within_feed W _ _ _ fun i hi => by
    rw [hlen] at hi
    rw [List.take_take, Nat.min_eq_left (by omega)]
    exact hl i hi, hlen]
theorem FedA.lift {d : Nat} {c0 : τ} {Q : List PGot} {T0 T : PTape} {s0 s : σ} (W : Within act take actC takeC emb) (h0 : FedA d actC takeC c0 Q T0 (emb T0.at_ s0)) (h : FedA T0.at_ act take s0 Q T s) : FedA d actC takeC c0 Q T (emb T.at_ s) := by
  have hl := h.low
  have hl0 := h0.low
  have hat := h.at_
  refine ⟨h.over, h.got, by omega, h.at_, h.idle, ?_, fun i hi => ?_⟩
  · have := FedA.at_feed W h0 (T.at_ - T0.at_) (by omega) h.live
    rw [show T0.at_ - d + (T.at_ - T0.at_) = T.at_ - d by omega, show T0.at_ + (T.at_ - T0.at_) = T.at_ by omega, ← h.st] at this
    exact this.symm
  · rcases Nat.lt_or_ge i (T0.at_ - d) with hlt | hge
    · exact h0.live i hlt
    · have := FedA.at_feed W h0 (i - (T0.at_ - d)) (by omega) fun j hj => h.live j (by omega)
      rw [show T0.at_ - d + (i - (T0.at_ - d)) = i by omega] at this
      have hv := h.live (i - (T0.at_ - d)) (by omega)
      rw [this, W.hact _ _ hv]
      exact hv
theorem EndedA.lift {d : Nat} {c0 : τ} {Q : List PGot} {T0 T : PTape} {s0 : σ} (W : Within act take actC takeC emb) (h0 : FedA d actC takeC c0 Q T0 (emb T0.at_ s0)) (h : EndedA T0.at_ act take s0 Q T) : EndedA d actC takeC c0 Q T := by
  have hl0 := h0.low
  have hat := h0.at_
  have hfull : (Q.drop T0.at_).take (Q.length - T0.at_) = Q.drop T0.at_ := List.take_of_length_le (by simp)
  have hv : (act (feed take s0 (Q.drop T0.at_))).2 = true := by rw [h.next]
  refine ⟨h.over, h.got, by omega, h.at_, ?_, fun i hi => ?_⟩
  · have := FedA.at_feed W h0 (Q.length - T0.at_) (by omega) h.live
    rw [show T0.at_ - d + (Q.length - T0.at_) = Q.length - d by omega, hfull, List.take_of_length_le (by simp)] at this
    rw [this, W.hact _ _ hv, h.next]
  · rcases Nat.lt_or_ge i (T0.at_ - d) with hlt | hge
    · exact h0.live i hlt
    · have := FedA.at_feed W h0 (i - (T0.at_ - d)) (by omega) fun j hj => h.live j (by omega)
      rw [show T0.at_ - d + (i - (T0.at_ - d)) = i by omega] at this
      have hv := h.live (i - (T0.at_ - d)) (by omega)
      rw [this, W.hact _ _ hv]
      exact hv
theorem FedA.eq {a : Nat} {s0 s s' : σ} {Q : List PGot} {T : PTape} (h : FedA a act take s0 Q T s) (e : s = s') : FedA a act take s0 Q T s' := e ▸ h
/-- Behind the tape's own end: where the routine is done it stays. -/
theorem FedA.done {s0 s : σ} {Q : List PGot} {T : PTape} (h : FedA 0 act take s0 Q T s) (hd : ∀ g, take s g = s) : feed take s0 Q = s := by
  have e : feed take s0 Q = feed take (feed take s0 (Q.take T.at_)) (Q.drop T.at_) := by
    conv => lhs; rw [← List.take_append_drop T.at_ Q]
    exact List.foldl_append
  have h1 : s = feed take s0 (Q.take T.at_) := by have := h.st; simpa using this
  rw [e, ← h1]
  exact feed_done hd _
end
end Go.Proofs.YtmlnhjfdhjachaaGreat

/-
  The document's pinning on a fresh tape, told step by step (layer 25). No condition.
-/
namespace Go.Proofs.YtmlnhjfdhjachaaGreat
set_option linter.unusedVariables false
open Go.ChangeShapes Go.WideShapes Go.ChangeAt Go.RowKit
open Go.ChangeMaps (setBlock)

/-- What the document's pinning leaves. -/
def PinPostZ (s0 : PPin) (Q : List PGot) (w : World) (tb : Nat) (A : Option Addr) (cc : Nat) (e : Ending) (w' : World) : Prop :=
  ∃ T' p ep tk, e = .returned (.agg #[.int .i64 p, .int .u64 ep, .bool tk]) ∧ TapeIn w' tb A cc T' ∧ Chg (fun k => k = tb) w w' ∧
    ((EndedA 0 PPin.act PPin.take s0 Q T' ∧ (tk = false → 0 ≤ p ∧ p < s0.cfg.pins)) ∨ ∃ s, FedA 0 PPin.act PPin.take s0 Q T' s ∧ s.part = 5 ∧ s.pin = p ∧ s.epoch = ep ∧ s.taken = tk)
theorem pin_endedZ {s0 : PPin} {Q : List PGot} {T : PTape} (h : EndedA 0 PPin.act PPin.take s0 Q T) {w w' : World} {tb cc : Nat} {A : Option Addr} (p ep : Int) (tk : Bool) (hr : tk = false → 0 ≤ p ∧ p < s0.cfg.pins) (hT : TapeIn w' tb A cc T) (hC : Chg (fun k => k = tb) w w') :
    PinPostZ s0 Q w tb A cc (.returned (.agg #[.int .i64 p, .int .u64 ep, .bool tk])) w' := ⟨T, p, ep, tk, rfl, hT, hC, .inl ⟨h, hr⟩⟩
theorem pin_fedZ {s0 s : PPin} {Q : List PGot} {T : PTape} (h : FedA 0 PPin.act PPin.take s0 Q T s) (hp : s.part = 5) {w w' : World} {tb cc : Nat} {A : Option Addr} (hT : TapeIn w' tb A cc T) (hC : Chg (fun k => k = tb) w w') :
    PinPostZ s0 Q w tb A cc (.returned (.agg #[.int .i64 s.pin, .int .u64 s.epoch, .bool s.taken])) w' := ⟨T, s.pin, s.epoch, s.taken, rfl, hT, hC, .inr ⟨s, h, hp, rfl, rfl, rfl⟩⟩
/-- Between two rounds of the outer loop. -/
structure PinRelZ (w : World) (tb : Nat) (A : Option Addr) (cc : Nat) (c : PCfg) (th : Int) (Q : List PGot) (ev iv : Value) (wr : World) : Prop where
  ex : ∃ (T : PTape) (k : Nat) (x : Int), ev = .int .u64 x ∧ iv = .int .i64 k ∧ (k : Int) ≤ c.pins ∧ (0 ≤ x ∧ x ≤ 18446744073709551615) ∧ TapeIn wr tb A cc T ∧ T.got = Q ∧
    (EndedA 0 PPin.act PPin.take (newPin c th) Q T ∨ (FedA 0 PPin.act PPin.take (newPin c th) Q T (pin2 c th k x) ∧ (k : Int) < c.pins) ∨ (FedA 0 PPin.act PPin.take (newPin c th) Q T (pin5 c th k 0) ∧ (k : Int) = c.pins))
  chg : Chg (fun k => k = tb) w wr
  b0 : Blk wr w.heap.size 24 #[.int .i64 c.cap, .int .i64 c.pins, .int .i64 c.shelves, .int .i64 c.queue, .int .i64 c.watchers, .int .u64 c.seed]
  b1 : Blk wr (w.heap.size + 1) 100 #[.int .i64 0, .int .u64 0, .bool false]
/-- Between two rounds of the inner loop. -/
structure PinIn3Z (w : World) (tb : Nat) (A : Option Addr) (cc : Nat) (c : PCfg) (th : Int) (Q : List PGot) (k M : Nat) (ev : Value) (wr : World) : Prop where
  ex : ∃ (T : PTape) (x : Int), ev = .int .u64 x ∧ (0 ≤ x ∧ x ≤ 18446744073709551615) ∧ TapeIn wr tb A cc T ∧ T.got = Q ∧ tapeV Q.length T < M ∧
    (EndedA 0 PPin.act PPin.take (newPin c th) Q T ∨ FedA 0 PPin.act PPin.take (newPin c th) Q T (pin3 c th k x))
  chg : Chg (fun k => k = tb) w wr
  b0 : Blk wr w.heap.size 24 #[.int .i64 c.cap, .int .i64 c.pins, .int .i64 c.shelves, .int .i64 c.queue, .int .i64 c.watchers, .int .u64 c.seed]
  b1 : Blk wr (w.heap.size + 1) 100 #[.int .i64 0, .int .u64 0, .bool false]
set_option maxRecDepth 100000 in
set_option maxHeartbeats 8000000 in
theorem refPin_gen {w : World} {tb cc : Nat} {A : Option Addr} {T : PTape} (h : TapeIn w tb A cc T) (h0 : T.over = false) (h1 : T.at_ = 0) (h2 : T.act = noAct) (c : PCfg) (hc : c.Right) (th : Int) (hth : 0 ≤ th ∧ th ≤ 9223372036854775807) (hok : ∀ g ∈ T.got, g.Ok) :
    Calls Tryz.prog 42 #[.pointer (some ⟨tb, 0, none⟩), c.val, .int .i64 th] w (PinPostZ (newPin c th) T.got w tb A cc) := by
  have F0 := FedA.start (act := PPin.act) (take := PPin.take) (newPin c th) T.got T h0 (by omega) h2 rfl
  rw [h1] at F0
  generalize hQ : T.got = Q at *
  have ha0 : PPin.act (newPin c th) = (⟨1, 1, 0, 0, 0, ByteArray.empty⟩, true) := PPin.act1 (.inl rfl)
  have hlt := h.blk.lt
  have hz : Below w.heap.size w ((w.alloc (.cells #[.int .i64 c.cap, .int .i64 c.pins, .int .i64 c.shelves, .int .i64 c.queue, .int .i64 c.watchers, .int .u64 c.seed] 24)).alloc (.cells #[.int .i64 0, .int .u64 0, .bool false] 100)) := ((Below.refl _ _).alloc (Nat.le_refl _) _).alloc (by simp) _
  have hC0 := tape_load (h.below hz) 1 0
  have hK := Chg.of_below hz (fun k => k = tb)
  have B0 := (Blk.new w 24 #[.int .i64 c.cap, .int .i64 c.pins, .int .i64 c.shelves, .int .i64 c.queue, .int .i64 c.watchers, .int .u64 c.seed]).alloc (.cells #[.int .i64 0, .int .u64 0, .bool false] 100)
  have B1 := Blk.new (w.alloc (.cells #[.int .i64 c.cap, .int .i64 c.pins, .int .i64 c.shelves, .int .i64 c.queue, .int .i64 c.watchers, .int .u64 c.seed] 24)) 100 #[.int .i64 0, .int .u64 0, .bool false]
  simp only [World.size_alloc] at B1
  have hp := hc.pins
  have hAt := fun (k : Nat) (hk : (k : Int) < c.pins) W => refPinAt c hc k hk W
  rw [show c.val = .agg #[.int .i64 c.cap, .int .i64 c.pins, .int .i64 c.shelves, .int .i64 c.queue, .int .i64 c.watchers, .int .u64 c.seed] from rfl] at hAt ⊢
  have fx := F0.go2 ha0
  rcases hx : T.doAct ⟨1, 1, 0, 0, 0, ByteArray.empty⟩ with ⟨⟨gw, gt⟩, T1⟩
  rw [hx] at hC0 fx
  simp only at hC0
  have hm : th.tmod c.pins = th % c.pins := Int.tmod_eq_emod_of_nonneg hth.1
  have hp0 : ¬ c.pins = 0 := by omega
  have hp1 : ¬ c.pins = -1 := by omega
  have hpp : 0 < c.pins := by omega
  have hpz : (c.pins == 0) = false := by rw [beq_eq_false_iff_ne]; omega
  have hf0 := Int.emod_nonneg th (b := c.pins) (by omega)
  have hf1 := Int.emod_lt_of_pos th (b := c.pins) (by omega)
  replace h := Lib.hid h
  replace F0 := Lib.hid F0
  replace hx := Lib.hid hx
  replace hC0 := Lib.hid hC0
  replace hK := Lib.hid hK
  replace B0 := Lib.hid B0
  replace B1 := Lib.hid B1
  replace fx := Lib.hid fx
  replace ha0 := Lib.hid ha0
  replace hQ := Lib.hid hQ
  replace hz := Lib.hid hz
  replace hAt := Lib.hid hAt
  clear h0 h1 h2
  go_enter Tryz.func42, Tryz.ntmps42
  go_wp2_with fail
  refine (hC0.out).mono ?_; rintro e w1 ⟨rfl, hT1, hC1⟩
  have hsz := hC1.size
  simp only [World.size_alloc] at hsz
  have b0 := B0.out.keep (hC1.block w.heap.size (by simp; omega) (by omega))
  have b1 := B1.out.keep (hC1.block (w.heap.size + 1) (by simp) (by omega))
  have hK1 := hK.out.trans hC1 fun i hi => Or.inl hi
  replace hT1 := Lib.hid hT1
  replace hC1 := Lib.hid hC1
  replace b0 := Lib.hid b0
  replace b1 := Lib.hid b1
  replace hK1 := Lib.hid hK1
  go_wp2_with fail
  go_loopw [7, 8] (fun ev iv wr => PinRelZ w tb A cc c th Q ev iv wr) (fun _ _ wr => tapeM tb Q.length wr)
  case atStart =>
    rcases fx.out with ⟨g, hg, e, hF⟩ | ⟨e, hE, hS⟩
    · injection e with e1 e2
      subst e1 e2
      have hgw : PGot.Ok ⟨gw, gt⟩ := hok _ (List.mem_of_getElem? hg)
      have ht : PPin.take (newPin c th) ⟨gw, gt⟩ = pin2 c th 0 gw := PPin.take1 rfl _
      rw [ht] at hF
      exact ⟨⟨_, 0, gw, rfl, rfl, by show (0 : Int) ≤ c.pins; omega, hgw, hT1.out, hF.got, .inr (.inl ⟨hF, by show (0 : Int) < c.pins; omega⟩)⟩, hK1.out, b0.out, b1.out⟩
    · injection e with e1 e2
      injection e1 with e1 e3
      subst e1 e2
      exact ⟨⟨_, 0, 0, rfl, rfl, by show (0 : Int) ≤ c.pins; omega, ⟨Int.le_refl _, by decide⟩, hT1.out, hE.got, .inl hE⟩, hK1.out, b0.out, b1.out⟩
  case round =>
    obtain ⟨⟨T2, k, x, rfl, rfl, hkp, hx0, hT2, hQ2, hcase⟩, hK2, b02, b12⟩ := hrel
    have t2 : wr.cell? ⟨tb, 2, none⟩ = some (.bool T2.over) := hT2.blk.cell 2
    have hm2 := tapeM_eq hT2 Q.length
    have c0 := b02.cell 0
    have c1 := b02.cell 1
    have c2 := b02.cell 2
    have c3 := b02.cell 3
    have c4 := b02.cell 4
    have c5 := b02.cell 5
    have r0 := b12.cell 0
    have r1 := b12.cell 1
    have r2 := b12.cell 2
    have fr0 := b12.frozen 0
    have fr1 := b12.frozen 1
    have fr2 := b12.frozen 2
    have hs2 := b12.lt
    have htl := hT2.blk.lt
    replace b02 := Lib.hid b02
    replace b12 := Lib.hid b12
    replace hK2 := Lib.hid hK2
    replace hQ2 := Lib.hid hQ2
    replace hm2 := Lib.hid hm2
    rcases hcase with hE | ⟨hF, hkl⟩ | ⟨hF, hke⟩
    · rw [hE.over] at t2
      replace hT2 := Lib.hid hT2
      replace hE := Lib.hid hE
      by_cases hkl : (k : Int) < c.pins
      · have d2 : decide ((k : Int) < c.pins) = true := by simp; omega
        replace hkl := Lib.hid hkl
        as_aux_lemma =>
          go_wp2_with fail
          refine gen_world (α := fun W' => bodyPost _ _ _ _ _ W') (fun W' => Blk W' (w.heap.size + 1) 100 #[.int .i64 0, .int .u64 0, .bool true] ∧ TapeIn W' tb A cc T2 ∧ Chg (fun k => k = tb) w W') ⟨?_, ?_, ?_⟩ ?_
          · exact Blk.eq_cs (((b12.out.set_ 0 _).set_ 1 _).set_ 2 _) rfl
          · exact ((hT2.out.set_far (by show tb < w.heap.size + 1; omega) _).set_far (by show tb < w.heap.size + 1; omega) _).set_far (by show tb < w.heap.size + 1; omega) _
          · exact ((hK2.out.setCell (.inr (by show w.heap.size ≤ w.heap.size + 1; omega)) _).setCell (.inr (by show w.heap.size ≤ w.heap.size + 1; omega)) _).setCell (.inr (by show w.heap.size ≤ w.heap.size + 1; omega)) _
          rintro W' ⟨g1, g2, g3⟩
          have e0 := g1.cell 0
          have e1 := g1.cell 1
          have e2 := g1.cell 2
          refine bodyPost_ret (v := .agg #[.int .i64 0, .int .u64 0, .bool true]) (by simp [results, Tryz.results42, go_sem, e0, e1, e2]) rfl ?_
          exact pin_endedZ hE.out 0 0 true (by first | (intro e; cases e; done) | (intro _; exact ⟨by omega, hal⟩)) g2 g3
      · have d2 : decide ((k : Int) < c.pins) = false := by simp; omega
        replace hkl := Lib.hid hkl
        as_aux_lemma =>
          go_wp2_with fail
          refine gen_world (α := fun W' => bodyPost _ _ _ _ _ W') (fun W' => Blk W' (w.heap.size + 1) 100 #[.int .i64 0, .int .u64 0, .bool true] ∧ TapeIn W' tb A cc T2 ∧ Chg (fun k => k = tb) w W') ⟨?_, ?_, ?_⟩ ?_
          · exact Blk.eq_cs (((b12.out.set_ 0 _).set_ 1 _).set_ 2 _) rfl
          · exact ((hT2.out.set_far (by show tb < w.heap.size + 1; omega) _).set_far (by show tb < w.heap.size + 1; omega) _).set_far (by show tb < w.heap.size + 1; omega) _
          · exact ((hK2.out.setCell (.inr (by show w.heap.size ≤ w.heap.size + 1; omega)) _).setCell (.inr (by show w.heap.size ≤ w.heap.size + 1; omega)) _).setCell (.inr (by show w.heap.size ≤ w.heap.size + 1; omega)) _
          rintro W' ⟨g1, g2, g3⟩
          have e0 := g1.cell 0
          have e1 := g1.cell 1
          have e2 := g1.cell 2
          refine bodyPost_ret (v := .agg #[.int .i64 0, .int .u64 0, .bool true]) (by simp [results, Tryz.results42, go_sem, e0, e1, e2]) rfl ?_
          exact pin_endedZ hE.out 0 0 true (by first | (intro e; cases e; done) | (intro _; exact ⟨by omega, hal⟩)) g2 g3
    · have hEo := hF.over
      rw [hEo] at t2
      have d2 : decide ((k : Int) < c.pins) = true := by simp; omega
      have hw : IntKind.i64.wrap (th % c.pins + k) = th % c.pins + k := IntWalk.i64_in _ (by omega)
      obtain ⟨a, ha⟩ : ∃ a : Nat, (th % c.pins + k) % c.pins = a := ⟨((th % c.pins + k) % c.pins).toNat, by have := Int.emod_nonneg (th % c.pins + k) (b := c.pins) (by omega); omega⟩
      have hal : (a : Int) < c.pins := by rw [← ha]; exact Int.emod_lt_of_pos _ (by omega)
      have hmm : (th % c.pins + k).tmod c.pins = a := by rw [Int.tmod_eq_emod_of_nonneg (by omega), ha]
      have hAtk := fun W => hAt.out a hal W
      have hsA : PPin.act (pin2 c th k x) = (⟨3, 1, ((3 + a : Nat) : Int), 0, IntKind.u64.wrap (x + 1), ByteArray.empty⟩, true) := PPin.act2 rfl a ha
      have fx2 := hF.go2 hsA
      have hSw := fun W (hb : Below wr.heap.size wr W) => tape_swap (hT2.below hb) 1 ((3 + a : Nat) : Int) 0 (IntKind.u64.wrap (x + 1))
      rcases hx2 : T2.doAct ⟨3, 1, ((3 + a : Nat) : Int), 0, IntKind.u64.wrap (x + 1), ByteArray.empty⟩ with ⟨⟨qw, qt⟩, T3⟩
      rw [hx2] at hSw fx2
      simp only at hSw
      have hnx : (qw ≠ 0 ∧ (0 ≤ qw ∧ qw ≤ 18446744073709551615) ∧ T3.got = Q ∧ tapeV Q.length T3 < tapeV Q.length T2 ∧ ((FedA 0 PPin.act PPin.take (newPin c th) Q T3 (pin2 c th (k + 1) x) ∧ ((k + 1 : Nat) : Int) < c.pins) ∨ (FedA 0 PPin.act PPin.take (newPin c th) Q T3 (pin5 c th (k + 1) 0) ∧ ((k + 1 : Nat) : Int) = c.pins))) ∨
          (qw = 0 ∧ T3.got = Q ∧ tapeV Q.length T3 < tapeV Q.length T2 ∧ (EndedA 0 PPin.act PPin.take (newPin c th) Q T3 ∨ FedA 0 PPin.act PPin.take (newPin c th) Q T3 (pin3 c th k x))) := by
        rcases fx2 with ⟨g, hg, e, hF3⟩ | ⟨e, hE, hS⟩
        · injection e with e1 e2
          subst e1
          have hatl := (List.getElem?_eq_some_iff.mp hg).1
          have hqw : PGot.Ok ⟨qw, qt⟩ := hok _ (List.mem_of_getElem? hg)
          rw [← e2] at hF3
          have hlt3 : tapeV Q.length T3 < tapeV Q.length T2 := by rw [e2]; unfold tapeV; simp only [hEo]; simp; omega
          by_cases hq : qw = 0
          · right
            have htk : PPin.take (pin2 c th k x) ⟨qw, qt⟩ = pin3 c th k x := PPin.take2a rfl _ hq
            rw [htk] at hF3
            exact ⟨hq, hF3.got, hlt3, .inr hF3⟩
          · left
            refine ⟨hq, hqw, hF3.got, hlt3, ?_⟩
            by_cases hk1 : ((k + 1 : Nat) : Int) = c.pins
            · right
              have htk : PPin.take (pin2 c th k x) ⟨qw, qt⟩ = pin5 c th (k + 1) 0 := PPin.take2b rfl _ hq (by show (k : Int) + 1 = c.pins; omega)
              rw [htk] at hF3
              exact ⟨hF3, hk1⟩
            · left
              have htk : PPin.take (pin2 c th k x) ⟨qw, qt⟩ = pin2 c th (k + 1) x := PPin.take2c rfl _ hq (by show ¬ (k : Int) + 1 = c.pins; omega)
              rw [htk] at hF3
              exact ⟨hF3, by omega⟩
        · injection e with e1 e2
          injection e1 with e1 e3
          subst e1
          rw [← e2] at hE
          refine .inr ⟨rfl, hE.got, ?_, .inl hE⟩
          rw [e2]
          unfold tapeV
          simp [hEo]
      clear fx2 hx2 hF
      have hMv : tapeM tb Q.length wr = tapeV Q.length T2 := hm2.out
      replace hMv := Lib.hid hMv
      replace hT2 := Lib.hid hT2
      replace hAtk := Lib.hid hAtk
      replace hSw := Lib.hid hSw
      replace hsA := Lib.hid hsA
      replace ha := Lib.hid ha
      replace hnx := Lib.hid hnx
      go_wp2_with fail
      go_quiet (fail)
      go_wp2_with fail
      have K0 := b02.out.drewN nq
      refine (hAtk.out _).mono ?_; rintro e w3 ⟨rfl, hb3⟩
      have hb3' : Below wr.heap.size wr w3 := (below_drewN (Below.refl _ _) nq).trans hb3
      have b03 := b02.out.below hb3' b02.out.lt
      have b13 := b12.out.below hb3' b12.out.lt
      have hK3 := hK2.out.next_ hb3'
      clear hb3 K0 c0 c1 c2 c3 c4 c5 r0 r1 r2 fr0 fr1 fr2 t2
      replace hb3' := Lib.hid hb3'
      replace b03 := Lib.hid b03
      replace b13 := Lib.hid b13
      replace hK3 := Lib.hid hK3
      rcases hnx.out with ⟨hq0, hqb, hg3, hv3, hnext⟩ | ⟨rfl, hg3, hv3, hnext⟩
      · as_aux_lemma =>
          have d3 : (qw == 0) = false := by simp [hq0]
          replace hq0 := Lib.hid hq0
          go_wp2_with fail
          refine (hSw.out _ hb3'.out).mono ?_; rintro e w4 ⟨rfl, hT4, hC4⟩
          have b04 := b03.out.keep (hC4.block _ b03.out.lt (by omega))
          have b14 := b13.out.keep (hC4.block _ b13.out.lt (by omega))
          have hK4 := hK3.out.trans hC4 fun i hi => Or.inl hi
          replace hT4 := Lib.hid hT4
          replace hC4 := Lib.hid hC4
          replace b04 := Lib.hid b04
          replace b14 := Lib.hid b14
          replace hK4 := Lib.hid hK4
          go_wp2_with fail
          go_roundw
          case rel => exact ⟨⟨T3, k + 1, x, rfl, by go_num, by omega, hx0, hT4.out, hg3, .inr hnext⟩, hK4.out, b04.out, b14.out⟩
          case measure =>
            rw [hMv.out, tapeM_eq hT4.out]
            exact hv3
      · go_wp2_with fail
        refine (hSw.out _ hb3'.out).mono ?_; rintro e w4 ⟨rfl, hT4, hC4⟩
        have b04 := b03.out.keep (hC4.block _ b03.out.lt (by omega))
        have b14 := b13.out.keep (hC4.block _ b13.out.lt (by omega))
        have hK4 := hK3.out.trans hC4 fun i hi => Or.inl hi
        replace hT4 := Lib.hid hT4
        replace hC4 := Lib.hid hC4
        replace b04 := Lib.hid b04
        replace b14 := Lib.hid b14
        replace hK4 := Lib.hid hK4
        have hin : PinIn3Z w tb A cc c th Q k (tapeV Q.length T2) (.int .u64 x) w4 := ⟨⟨T3, x, rfl, hx0, hT4.out, hg3, hv3, hnext⟩, hK4.out, b04.out, b14.out⟩
        replace hin := Lib.hid hin
        clear hnext hv3 hg3
        go_wp2_with fail
        go_loopw [7] (fun ev wr => PinIn3Z w tb A cc c th Q k (tapeV Q.length T2) ev wr) (fun _ wr => tapeM tb Q.length wr)
        case atStart => exact hin.out
        case round =>
          clear hin hT4 hC4 b04 b14 hK4 hSw hAtk
          obtain ⟨⟨T5, y, rfl, hy, hT5, hg5, hv5, hcase5⟩, hK5, b05, b15⟩ := hrel
          have t2 : wr.cell? ⟨tb, 2, none⟩ = some (.bool T5.over) := hT5.blk.cell 2
          have hm5 := tapeM_eq hT5 Q.length
          have htl5 := hT5.blk.lt
          replace b05 := Lib.hid b05
          replace b15 := Lib.hid b15
          replace hK5 := Lib.hid hK5
          replace hm5 := Lib.hid hm5
          rcases hcase5 with hE | hF
          · as_aux_lemma =>
              rw [hE.over] at t2
              replace hE := Lib.hid hE
              replace hT5 := Lib.hid hT5
              go_wp2_with fail
              go_roundw
              case rel => exact ⟨⟨T5, k + 1, y, rfl, by go_num, by omega, hy, hT5.out, hg5, .inl hE.out⟩, hK5.out, b05.out, b15.out⟩
              case measure =>
                rw [hMv.out, tapeM_eq hT5.out]
                exact hv5
          · have hEo5 := hF.over
            rw [hEo5] at t2
            have hs3 : PPin.act (pin3 c th k y) = (⟨1, 1, 0, 0, 0, ByteArray.empty⟩, true) := PPin.act1 (.inr rfl)
            have fx5 := hF.go2 hs3
            have hLd := tape_load hT5 1 0
            rcases hx5 : T5.doAct ⟨1, 1, 0, 0, 0, ByteArray.empty⟩ with ⟨⟨qw, qt⟩, T6⟩
            rw [hx5] at hLd fx5
            simp only at hLd
            replace hT5 := Lib.hid hT5
            replace hLd := Lib.hid hLd
            replace hx5 := Lib.hid hx5
            replace hF := Lib.hid hF
            replace hs3 := Lib.hid hs3
            rcases fx5 with ⟨g, hg, e, hF6⟩ | ⟨e, hE6, hS6⟩
            · injection e with e1 e2
              subst e1
              have hqw : PGot.Ok ⟨qw, qt⟩ := hok _ (List.mem_of_getElem? hg)
              have hqw1 : 0 ≤ qw := hqw.1
              have hqw2 : qw ≤ 18446744073709551615 := hqw.2
              have hatl := (List.getElem?_eq_some_iff.mp hg).1
              have hT6o : T6.over = false := by rw [e2]; exact hEo5
              rw [← e2] at hF6
              have hv6 : tapeV Q.length T6 < tapeV Q.length T5 := by rw [e2]; unfold tapeV; simp only [hEo5]; simp; omega
              replace hF6 := Lib.hid hF6
              replace e2 := Lib.hid e2
              replace hg := Lib.hid hg
              go_wp2_with fail
              refine (hLd.out).mono ?_; rintro e w6 ⟨rfl, hT6, hC6⟩
              have t26 : w6.cell? ⟨tb, 2, none⟩ = some (.bool T6.over) := hT6.blk.cell 2
              rw [hT6o] at t26
              have b06 := b05.out.keep (hC6.block _ b05.out.lt (by omega))
              have b16 := b15.out.keep (hC6.block _ b15.out.lt (by omega))
              have hK6 := hK5.out.trans hC6 fun i hi => Or.inl hi
              clear t2
              replace hC6 := Lib.hid hC6
              replace b06 := Lib.hid b06
              replace hK6 := Lib.hid hK6
              by_cases hqy : qw = y
              · have d5 : (qw == y) = true := by simp [hqy]
                have q0 := b16.cell 0
                have q1 := b16.cell 1
                have q2 := b16.cell 2
                have qf0 := b16.frozen 0
                have qf1 := b16.frozen 1
                have qf2 := b16.frozen 2
                have htk : PPin.take (pin3 c th k y) ⟨qw, qt⟩ = ⟨c, th % c.pins, k, 5, a, y, false⟩ := by
                  rw [PPin.take3a rfl _ hqy]
                  show (⟨c, th % c.pins, k, 5, (th % c.pins + k) % c.pins, y, false⟩ : PPin) = _
                  rw [ha.out]
                have hF7 := hF6.out
                rw [htk] at hF7
                replace hF7 := Lib.hid hF7
                replace hqy := Lib.hid hqy
                replace htk := Lib.hid htk
                replace hT6 := Lib.hid hT6
                replace b16 := Lib.hid b16
                go_wp2_with fail
                refine gen_world (α := fun W' => bodyPost _ _ _ _ _ W') (fun W' => Blk W' (w.heap.size + 1) 100 #[.int .i64 a, .int .u64 y, .bool false] ∧ TapeIn W' tb A cc T6 ∧ Chg (fun k => k = tb) w W') ⟨?_, ?_, ?_⟩ ?_
                · exact Blk.eq_cs (((b16.out.set_ 0 _).set_ 1 _).set_ 2 _) rfl
                · exact ((hT6.out.set_far (by show tb < w.heap.size + 1; omega) _).set_far (by show tb < w.heap.size + 1; omega) _).set_far (by show tb < w.heap.size + 1; omega) _
                · exact ((hK6.out.setCell (.inr (by show w.heap.size ≤ w.heap.size + 1; omega)) _).setCell (.inr (by show w.heap.size ≤ w.heap.size + 1; omega)) _).setCell (.inr (by show w.heap.size ≤ w.heap.size + 1; omega)) _
                rintro W' ⟨g1, g2, g3⟩
                have e0 := g1.cell 0
                have e1 := g1.cell 1
                have e2 := g1.cell 2
                refine bodyPost_ret (v := .agg #[.int .i64 a, .int .u64 y, .bool false]) (by simp [results, Tryz.results42, go_sem, e0, e1, e2]) rfl ?_
                exact pin_fedZ hF7.out rfl g2 g3
              · have d5 : (qw == y) = false := by simp [hqy]
                have htk : PPin.take (pin3 c th k y) ⟨qw, qt⟩ = pin4 c th k qw := PPin.take3b rfl _ hqy
                have hF7 := hF6.out
                rw [htk] at hF7
                have hs4 : PPin.act (pin4 c th k qw) = (⟨2, 1, ((3 + a : Nat) : Int), 0, IntKind.u64.wrap (qw + 1), ByteArray.empty⟩, true) := PPin.act4 rfl a ha.out
                have fx7 := hF7.go2 hs4
                have hSt := tape_store hT6 1 ((3 + a : Nat) : Int) (IntKind.u64.wrap (qw + 1))
                rcases hx7 : T6.doAct ⟨2, 1, ((3 + a : Nat) : Int), 0, IntKind.u64.wrap (qw + 1), ByteArray.empty⟩ with ⟨⟨zw, zt⟩, T7⟩
                rw [hx7] at hSt fx7
                simp only at hSt
                have hnx7 : T7.got = Q ∧ tapeV Q.length T7 < tapeV Q.length T6 ∧ (EndedA 0 PPin.act PPin.take (newPin c th) Q T7 ∨ FedA 0 PPin.act PPin.take (newPin c th) Q T7 (pin3 c th k qw)) := by
                  rcases fx7 with ⟨g7, hg7, e7, hF8⟩ | ⟨e7, hE7, hS7⟩
                  · injection e7 with e71 e72
                    have hatl7 := (List.getElem?_eq_some_iff.mp hg7).1
                    rw [← e72] at hF8
                    rw [show PPin.take (pin4 c th k qw) g7 = pin3 c th k qw from PPin.take4 rfl _] at hF8
                    refine ⟨hF8.got, ?_, .inr hF8⟩
                    rw [e72]; unfold tapeV; simp only [hT6o]; simp; omega
                  · injection e7 with e71 e72
                    rw [← e72] at hE7
                    refine ⟨hE7.got, ?_, .inl hE7⟩
                    rw [e72]; unfold tapeV; simp [hT6o]
                clear fx7 hx7
                replace hnx7 := Lib.hid hnx7
                replace hF7 := Lib.hid hF7
                replace hs4 := Lib.hid hs4
                replace hSt := Lib.hid hSt
                replace htk := Lib.hid htk
                replace hT6 := Lib.hid hT6
                replace b16 := Lib.hid b16
                replace hqy := Lib.hid hqy
                go_wp2_with fail
                refine (hSt.out).mono ?_; rintro e w7 ⟨rfl, hT7, hC7⟩
                have b07 := b06.out.keep (hC7.block _ b06.out.lt (by omega))
                have b17 := b16.out.keep (hC7.block _ b16.out.lt (by omega))
                have hK7 := hK6.out.trans hC7 fun i hi => Or.inl hi
                obtain ⟨z1, z2, z3⟩ := hnx7.out
                replace hT7 := Lib.hid hT7
                replace hC7 := Lib.hid hC7
                replace b07 := Lib.hid b07
                replace b17 := Lib.hid b17
                replace hK7 := Lib.hid hK7
                go_wp2_with fail
                go_roundw
                case rel => exact ⟨⟨T7, qw, rfl, ⟨hqw1, hqw2⟩, hT7.out, z1, by omega, z3⟩, hK7.out, b07.out, b17.out⟩
                case measure =>
                  rw [hm5.out, tapeM_eq hT7.out]
                  show tapeV Q.length T7 < tapeV Q.length T5
                  omega
            · injection e with e1 e2
              injection e1 with e1 e1'
              subst e1
              have hT6o : T6.over = true := by rw [e2]
              rw [← e2] at hE6
              replace hE6 := Lib.hid hE6
              replace hS6 := Lib.hid hS6
              replace e2 := Lib.hid e2
              go_wp2_with fail
              refine (hLd.out).mono ?_; rintro e w6 ⟨rfl, hT6, hC6⟩
              have t26 : w6.cell? ⟨tb, 2, none⟩ = some (.bool T6.over) := hT6.blk.cell 2
              rw [hT6o] at t26
              have b06 := b05.out.keep (hC6.block _ b05.out.lt (by omega))
              have b16 := b15.out.keep (hC6.block _ b15.out.lt (by omega))
              have hK6 := hK5.out.trans hC6 fun i hi => Or.inl hi
              have q0 := b16.cell 0
              have q1 := b16.cell 1
              have q2 := b16.cell 2
              have qf0 := b16.frozen 0
              have qf1 := b16.frozen 1
              have qf2 := b16.frozen 2
              clear t2
              replace hT6 := Lib.hid hT6
              replace hC6 := Lib.hid hC6
              replace b06 := Lib.hid b06
              replace b16 := Lib.hid b16
              replace hK6 := Lib.hid hK6
              go_wp2_with fail
              refine gen_world (α := fun W' => bodyPost _ _ _ _ _ W') (fun W' => Blk W' (w.heap.size + 1) 100 #[.int .i64 a, .int .u64 y, .bool false] ∧ TapeIn W' tb A cc T6 ∧ Chg (fun k => k = tb) w W') ⟨?_, ?_, ?_⟩ ?_
              · exact Blk.eq_cs (((b16.out.set_ 0 _).set_ 1 _).set_ 2 _) rfl
              · exact ((hT6.out.set_far (by show tb < w.heap.size + 1; omega) _).set_far (by show tb < w.heap.size + 1; omega) _).set_far (by show tb < w.heap.size + 1; omega) _
              · exact ((hK6.out.setCell (.inr (by show w.heap.size ≤ w.heap.size + 1; omega)) _).setCell (.inr (by show w.heap.size ≤ w.heap.size + 1; omega)) _).setCell (.inr (by show w.heap.size ≤ w.heap.size + 1; omega)) _
              rintro W' ⟨g1, g2, g3⟩
              have e0 := g1.cell 0
              have e1 := g1.cell 1
              have e2 := g1.cell 2
              refine bodyPost_ret (v := .agg #[.int .i64 a, .int .u64 y, .bool false]) (by simp [results, Tryz.results42, go_sem, e0, e1, e2]) rfl ?_
              exact pin_endedZ hE6.out a y false (by first | (intro e; cases e; done) | (intro _; exact ⟨by omega, hal⟩)) g2 g3
    · rw [hF.over] at t2
      have d2 : decide ((k : Int) < c.pins) = false := by simp; omega
      replace hT2 := Lib.hid hT2
      replace hF := Lib.hid hF
      replace hke := Lib.hid hke
      as_aux_lemma =>
        go_wp2_with fail
        refine gen_world (α := fun W' => bodyPost _ _ _ _ _ W') (fun W' => Blk W' (w.heap.size + 1) 100 #[.int .i64 0, .int .u64 0, .bool true] ∧ TapeIn W' tb A cc T2 ∧ Chg (fun k => k = tb) w W') ⟨?_, ?_, ?_⟩ ?_
        · exact Blk.eq_cs (((b12.out.set_ 0 _).set_ 1 _).set_ 2 _) rfl
        · exact ((hT2.out.set_far (by show tb < w.heap.size + 1; omega) _).set_far (by show tb < w.heap.size + 1; omega) _).set_far (by show tb < w.heap.size + 1; omega) _
        · exact ((hK2.out.setCell (.inr (by show w.heap.size ≤ w.heap.size + 1; omega)) _).setCell (.inr (by show w.heap.size ≤ w.heap.size + 1; omega)) _).setCell (.inr (by show w.heap.size ≤ w.heap.size + 1; omega)) _
        rintro W' ⟨g1, g2, g3⟩
        have e0 := g1.cell 0
        have e1 := g1.cell 1
        have e2 := g1.cell 2
        refine bodyPost_ret (v := .agg #[.int .i64 0, .int .u64 0, .bool true]) (by simp [results, Tryz.results42, go_sem, e0, e1, e2]) rfl ?_
        exact pin_fedZ hF.out rfl g2 g3
end Go.Proofs.YtmlnhjfdhjachaaGreat
