/-
  The document's reserving on a tape, from some place on (layer 28). No condition.
-/
import Derived.Test.YtfelkkbgbgnpaaaReserveF
import Derived.Test.YtfelkkbgbgnpaaaPinZ
namespace Go.Proofs.Ytfelkkbgbgnpaaa
set_option linter.unusedVariables false
open Go.ChangeShapes Go.WideShapes Go.ChangeAt Go.RowKit
open Go.ChangeMaps (setBlock)

/-- What the document's reserving answers, by the routine. -/
def ResPostZ (a0 : Nat) (E : PTape → Prop) (s0 : PRes) (Q : List PGot) (w : World) (tb : Nat) (A : Option Addr) (cc : Nat) (e : Ending) (w' : World) : Prop :=
  ∃ T' f t tr, e = .returned (.tuple #[.agg #[.bool f, .int .i64 t], .int .i64 tr]) ∧ TapeIn w' tb A cc T' ∧ Chg (fun k => k = tb) w w' ∧
    ((E T' ∧ f = false ∧ t = 0) ∨ ∃ s', FedA a0 PRes.act PRes.take s0 Q T' s' ∧ s'.over = true ∧ s'.full = f ∧ s'.ticket = t ∧ 0 ≤ t ∧ t ≤ 1099511627775)
/-- Between two rounds. -/
structure ResRelZ (a0 : Nat) (E : PTape → Prop) (w : World) (tb : Nat) (A : Option Addr) (cc : Nat) (c : PCfg) (s0 : PRes) (Q : List PGot) (xv tv : Value) (wr : World) : Prop where
  ex : ∃ (T : PTape) (s : PRes) (x : Int), xv = .int .u64 x ∧ tv = .int .i64 s.tries ∧ TapeIn wr tb A cc T ∧ T.got = Q ∧
    ((E T) ∨ (FedA a0 PRes.act PRes.take s0 Q T s ∧ ∃ s' : PRes, s = s'.look x ∧ s'.cfg = c ∧ s'.made = true ∧ s'.over = false ∧ 0 ≤ x ∧ x ≤ 18446744073709551615))
  chg : Chg (fun k => k = tb) w wr
  b0 : Blk wr w.heap.size 24 #[.int .i64 c.cap, .int .i64 c.pins, .int .i64 c.shelves, .int .i64 c.queue, .int .i64 c.watchers, .int .u64 c.seed]
  b1 : Blk wr (w.heap.size + 1) 169 #[.bool false, .int .i64 0]
set_option maxRecDepth 100000 in
set_option maxHeartbeats 4000000 in
theorem refReserve_gen {w : World} {tb cc : Nat} {A : Option Addr} {T : PTape} (h : TapeIn w tb A cc T) {a0 : Nat} {E : PTape → Prop} {Q : List PGot} (c : PCfg) (hc : c.Right) (hEE : Ends a0 PRes.act PRes.take (newRes c) Q E) (hst : E T ∨ FedA a0 PRes.act PRes.take (newRes c) Q T (newRes c)) (hok : ∀ g ∈ Q, g.Ok) :
    Calls Try.prog 94 #[.pointer (some ⟨tb, 0, none⟩), c.val] w (ResPostZ a0 E (newRes c) Q w tb A cc) := by
  have ha0 : PRes.act (newRes c) = (⟨1, 1, 1, 0, 0, ByteArray.empty⟩, true) := by
    unfold PRes.act PRes.idle newRes
    simp [(PCfg.right_iff c).2 hc]
  have hlt := h.blk.lt
  have hz : Below w.heap.size w ((w.alloc (.cells #[.int .i64 c.cap, .int .i64 c.pins, .int .i64 c.shelves, .int .i64 c.queue, .int .i64 c.watchers, .int .u64 c.seed] 24)).alloc (.cells #[.bool false, .int .i64 0] 169)) := ((Below.refl _ _).alloc (Nat.le_refl _) _).alloc (by simp) _
  have hC0 := tape_load (h.below hz) 1 1
  have hK := Chg.of_below hz (fun k => k = tb)
  have B0 := (Blk.new w 24 #[.int .i64 c.cap, .int .i64 c.pins, .int .i64 c.shelves, .int .i64 c.queue, .int .i64 c.watchers, .int .u64 c.seed]).alloc (.cells #[.bool false, .int .i64 0] 169)
  have B1 := Blk.new (w.alloc (.cells #[.int .i64 c.cap, .int .i64 c.pins, .int .i64 c.shelves, .int .i64 c.queue, .int .i64 c.watchers, .int .u64 c.seed] 24)) 169 #[.bool false, .int .i64 0]
  simp only [World.size_alloc] at B1
  rw [show c.val = .agg #[.int .i64 c.cap, .int .i64 c.pins, .int .i64 c.shelves, .int .i64 c.queue, .int .i64 c.watchers, .int .u64 c.seed] from rfl]
  rcases hx : T.doAct ⟨1, 1, 1, 0, 0, ByteArray.empty⟩ with ⟨⟨gw, gt⟩, T1⟩
  rw [hx] at hC0
  have fx : E T1 ∧ gw = 0 ∨ ∃ g, Q[T.at_]? = some g ∧ g = ⟨gw, gt⟩ ∧ FedA a0 PRes.act PRes.take (newRes c) Q T1 (PRes.take (newRes c) g) := by
    rcases hst with hE | hF
    · rw [over_do (hEE.over _ hE)] at hx
      injection hx with e1 e2
      injection e1 with e1 e3
      exact .inl ⟨e2 ▸ hE, e1.symm⟩
    · rcases hF.go2 ha0 with ⟨g, hg, e, hF2⟩ | ⟨e, hE, _⟩
      · rw [hx] at e
        injection e with e1 e2
        exact .inr ⟨g, hg, e1.symm, by rw [e2]; exact hF2⟩
      · rw [hx] at e
        injection e with e1 e2
        injection e1 with e1 e3
        exact .inl ⟨by rw [e2]; exact hEE.of _ hE, e1⟩
  simp only at hC0
  have hs1 : (newRes c).tries = 0 := rfl
  replace h := Lib.hid h
  replace hst := Lib.hid hst
  replace hEE := Lib.hid hEE
  replace hx := Lib.hid hx
  replace hC0 := Lib.hid hC0
  replace hK := Lib.hid hK
  replace B0 := Lib.hid B0
  replace B1 := Lib.hid B1
  replace fx := Lib.hid fx
  replace ha0 := Lib.hid ha0
  replace hz := Lib.hid hz
  go_enter Try.func94, Try.ntmps94
  go_wp2_with fail
  refine (hC0.out).mono ?_; rintro e w1 ⟨rfl, hT1, hC1⟩
  have hsz := hC1.size
  simp only [World.size_alloc] at hsz
  have b0 := B0.out.keep (hC1.block w.heap.size (by simp; omega) (by omega))
  have b1 := B1.out.keep (hC1.block (w.heap.size + 1) (by simp) (by omega))
  have hK1 := hK.out.trans hC1 fun i hi => Or.inl hi
  replace hT1 := Lib.hid hT1
  replace hC1 := Lib.hid hC1
  replace b0 := Lib.hid b0
  replace b1 := Lib.hid b1
  replace hK1 := Lib.hid hK1
  go_wp2_with fail
  go_loopw [6, 7] (fun xv tv wr => ResRelZ a0 E w tb A cc c (newRes c) Q xv tv wr) (fun _ _ wr => tapeM tb Q.length wr)
  case atStart =>
    rcases fx.out with ⟨hE, e⟩ | ⟨g, hg, e, hF⟩
    · subst e
      exact ⟨⟨_, newRes c, 0, rfl, rfl, hT1.out, hEE.out.got _ hE, .inl hE⟩, hK1.out, b0.out, b1.out⟩
    · subst e
      have hgw : PGot.Ok ⟨gw, gt⟩ := hok _ (List.mem_of_getElem? hg)
      have ht : PRes.take (newRes c) ⟨gw, gt⟩ = (newRes c).look gw := by simp [PRes.take, PRes.idle, newRes, (PCfg.right_iff c).2 hc]
      rw [ht] at hF
      refine ⟨⟨_, (newRes c).look gw, gw, rfl, by rw [(look_cfg _ _).2.2]; rfl, hT1.out, hF.got, .inr ⟨hF, newRes c, rfl, rfl, (PCfg.right_iff c).2 hc, rfl, hgw.1, hgw.2⟩⟩, hK1.out, b0.out, b1.out⟩
  case round =>
    obtain ⟨⟨T2, s, x, rfl, rfl, hT2, hQ2, hcase⟩, hK2, b02, b12⟩ := hrel
    have t2 : wr.cell? ⟨tb, 2, none⟩ = some (.bool T2.over) := hT2.blk.cell 2
    have hm := tapeM_eq hT2 Q.length
    have c0 := b02.cell 0
    have r0 := b12.cell 0
    have r1 := b12.cell 1
    have fr0 := b12.frozen 0
    have fr1 := b12.frozen 1
    have hs2 := b12.lt
    have htl := hT2.blk.lt
    replace b02 := Lib.hid b02
    replace b12 := Lib.hid b12
    replace hK2 := Lib.hid hK2
    replace hQ2 := Lib.hid hQ2
    replace hm := Lib.hid hm
    rcases hcase with hE | ⟨hF, s', hs', hcfg, hmade, hov, hx0, hx1⟩
    · rw [hEE.out.over _ hE] at t2
      replace hT2 := Lib.hid hT2
      replace hE := Lib.hid hE
      go_wp2_with fail
      refine gen_world (α := fun W' => bodyPost _ _ _ _ _ W') (fun W' => Blk W' (w.heap.size + 1) 169 #[.bool false, .int .i64 0] ∧ TapeIn W' tb A cc T2 ∧ Chg (fun k => k = tb) w W') ⟨Blk.eq_cs ((b12.out.set_ 0 _).set_ 1 _) rfl, (hT2.out.set_far (by show tb < w.heap.size + 1; omega) _).set_far (by show tb < w.heap.size + 1; omega) _, (hK2.out.setCell (.inr (by show w.heap.size ≤ w.heap.size + 1; omega)) _).setCell (.inr (by show w.heap.size ≤ w.heap.size + 1; omega)) _⟩ ?_
      rintro W' ⟨g1, g2, g3⟩
      have e0 := g1.cell 0
      have e1 := g1.cell 1
      refine bodyPost_ret (v := .tuple #[.agg #[.bool false, .int .i64 0], .int .i64 s.tries]) (by simp [results, Try.results94, go_sem, e0, e1]) rfl ?_
      exact ⟨T2, _, _, _, rfl, g2, g3, .inl ⟨hE.out, rfl, rfl⟩⟩
    · rw [hF.over] at t2
      have hEn := fun W => enterR x c.cap hx0 hx1 W
      have hlk : s'.look x = if entOk x c.cap then { s' with seen := true, was := x, next := entV x c.cap } else { s' with over := true, full := true, ticket := 0 } := by rw [← hcfg]; rfl
      replace hT2 := Lib.hid hT2
      by_cases hok2 : entOk x c.cap = true
      · rw [hok2] at hEn hlk
        rw [if_pos rfl] at hlk
        generalize entV x c.cap = v at *
        have hsA : PRes.act s = (⟨3, 1, 1, x, v, ByteArray.empty⟩, true) := by rw [hs', hlk]; simp [PRes.act, PRes.idle, hmade, hov]
        have fx2 := hF.go2 hsA
        have hSw := tape_swap hT2.out 1 1 x v
        rcases hx2 : T2.doAct ⟨3, 1, 1, x, v, ByteArray.empty⟩ with ⟨⟨qw, qt⟩, T3⟩
        rw [hx2] at hSw fx2
        simp only at hSw
        have hCm := fun W => cameR x hx0 hx1 W
        replace hEn := Lib.hid hEn
        replace hlk := Lib.hid hlk
        replace hF := Lib.hid hF
        replace hsA := Lib.hid hsA
        replace hSw := Lib.hid hSw
        replace hx2 := Lib.hid hx2
        replace hCm := Lib.hid hCm
        replace hs' := Lib.hid hs'
        rcases fx2 with ⟨g, hg, e, hF3⟩ | ⟨e, hE, _⟩
        · injection e with e1 e2
          subst e1
          have hqw : PGot.Ok ⟨qw, qt⟩ := hok _ (List.mem_of_getElem? hg)
          have hqw1 : 0 ≤ qw := hqw.1
          have hqw2 : qw ≤ 18446744073709551615 := hqw.2
          have hT3o : T3.over = false := by rw [e2]; exact (hF.out).over
          rw [← e2] at hF3
          have hat := congrArg PTape.at_ e2
          replace hF3 := Lib.hid hF3
          replace e2 := Lib.hid e2
          replace hg := Lib.hid hg
          go_wp2_with fail
          refine (hEn.out _).mono ?_; rintro e w2 ⟨rfl, rfl⟩
          go_wp2_with fail
          refine (hSw.out).mono ?_; rintro e w3 ⟨rfl, hT3, hC3⟩
          have t23 : w3.cell? ⟨tb, 2, none⟩ = some (.bool T3.over) := hT3.blk.cell 2
          rw [hT3o] at t23
          have hm3 := tapeM_eq hT3 Q.length
          have b03 := b02.out.keep (hC3.block _ b02.out.lt (by omega))
          have b13 := b12.out.keep (hC3.block _ b12.out.lt (by omega))
          have hK3 := hK2.out.trans hC3 fun i hi => Or.inl hi
          have q0 := b13.cell 0
          have q1 := b13.cell 1
          have qf0 := b13.frozen 0
          have qf1 := b13.frozen 1
          clear c0 r0 r1 fr0 fr1 t2
          replace hT3 := Lib.hid hT3
          replace hC3 := Lib.hid hC3
          replace b03 := Lib.hid b03
          replace b13 := Lib.hid b13
          replace hK3 := Lib.hid hK3
          replace hm3 := Lib.hid hm3
          by_cases hqx : qw = x
          · have d1 : (qw == x) = true := by simp [hqx]
            replace hqx := Lib.hid hqx
            go_wp2_with fail
            refine (hCm.out _).mono ?_; rintro e w4 ⟨rfl, rfl⟩
            go_wp2_with fail
            refine gen_world (α := fun W' => bodyPost _ _ _ _ _ W') (fun W' => Blk W' (w.heap.size + 1) 169 #[.bool false, .int .i64 (cameOf x)] ∧ TapeIn W' tb A cc T3 ∧ Chg (fun k => k = tb) w W') ⟨Blk.eq_cs ((b13.out.set_ 0 _).set_ 1 _) rfl, (hT3.out.set_far (by show tb < w.heap.size + 1; omega) _).set_far (by show tb < w.heap.size + 1; omega) _, (hK3.out.setCell (.inr (by show w.heap.size ≤ w.heap.size + 1; omega)) _).setCell (.inr (by show w.heap.size ≤ w.heap.size + 1; omega)) _⟩ ?_
            rintro W' ⟨g1, g2, g3⟩
            have e0 := g1.cell 0
            have e1 := g1.cell 1
            refine bodyPost_ret (v := .tuple #[.agg #[.bool false, .int .i64 (cameOf x)], .int .i64 s.tries]) (by simp [results, Try.results94, go_sem, e0, e1]) rfl ?_
            have hsw : s.was = x := by rw [hs'.out, hlk.out]
            have hse : s.seen = true := by rw [hs'.out, hlk.out]
            have hsi : s.idle = false := by rw [hs'.out, hlk.out]; simp [PRes.idle, hmade, hov]
            have htk : s.take ⟨qw, qt⟩ = { s with over := true, full := false, ticket := cameOf x } := by
              simp [PRes.take, hsi, hse, hsw, hqx.out]
            have hF4 := hF3.out
            rw [htk] at hF4
            exact ⟨T3, _, _, _, rfl, g2, g3, .inr ⟨_, hF4, rfl, rfl, rfl, cameOf_le _⟩⟩
          · have d1 : (qw == x) = false := by simp [hqx]
            go_wp2_with fail
            have hsw : s.was = x := by rw [hs'.out, hlk.out]
            have hse : s.seen = true := by rw [hs'.out, hlk.out]
            have hsi : s.idle = false := by rw [hs'.out, hlk.out]; simp [PRes.idle, hmade, hov]
            have hsc : s.cfg = c := by rw [hs'.out, hlk.out]; exact hcfg
            have hsm : s.made = true := by rw [hs'.out, hlk.out]; exact hmade
            have hso : s.over = false := by rw [hs'.out, hlk.out]; exact hov
            have htk : s.take ⟨qw, qt⟩ = PRes.look { s with tries := IntKind.i64.wrap (s.tries + 1) } qw := by
              simp [PRes.take, hsi, hse, hsw, hqx]
            have hF4 := hF3.out
            rw [htk] at hF4
            have hatl := (List.getElem?_eq_some_iff.mp hg.out).1
            go_roundw
            case rel => exact ⟨⟨T3, _, qw, rfl, by rw [(look_cfg _ _).2.2, IntWalk.i64_left], hT3.out, hF4.got, .inr ⟨hF4, { s with tries := IntKind.i64.wrap (s.tries + 1) }, rfl, hsc, hsm, hso, hqw1, hqw2⟩⟩, hK3.out, b03.out, b13.out⟩
            case measure =>
              rw [hm3.out, hm.out, hT3o, (hF.out).over, hat]
              simp
              omega
        · injection e with e1 e2
          injection e1 with e1 e1'
          subst e1
          have hT3o : T3.over = true := by rw [e2]
          rw [← e2] at hE
          replace hE := hEE.out.of _ hE
          have hat := congrArg PTape.at_ e2
          replace hE := Lib.hid hE
          replace e2 := Lib.hid e2
          go_wp2_with fail
          refine (hEn.out _).mono ?_; rintro e w2 ⟨rfl, rfl⟩
          go_wp2_with fail
          refine (hSw.out).mono ?_; rintro e w3 ⟨rfl, hT3, hC3⟩
          have t23 : w3.cell? ⟨tb, 2, none⟩ = some (.bool T3.over) := hT3.blk.cell 2
          rw [hT3o] at t23
          have hm3 := tapeM_eq hT3 Q.length
          have b03 := b02.out.keep (hC3.block _ b02.out.lt (by omega))
          have b13 := b12.out.keep (hC3.block _ b12.out.lt (by omega))
          have hK3 := hK2.out.trans hC3 fun i hi => Or.inl hi
          clear c0 r0 r1 fr0 fr1 t2
          replace hT3 := Lib.hid hT3
          replace hC3 := Lib.hid hC3
          replace b03 := Lib.hid b03
          replace b13 := Lib.hid b13
          replace hK3 := Lib.hid hK3
          replace hm3 := Lib.hid hm3
          by_cases hqx : (0 : Int) = x
          · subst hqx
            go_wp2_with fail
            go_roundw
            case rel => exact ⟨⟨T3, s, 0, rfl, rfl, hT3.out, hEE.out.got _ hE.out, .inl hE.out⟩, hK3.out, b03.out, b13.out⟩
            case measure =>
              rw [hm3.out, hm.out, hT3o, (hF.out).over, hat]
              simp
          · have d1 : ((0 : Int) == x) = false := by simp [hqx]
            go_wp2_with fail
            go_roundw
            case rel => exact ⟨⟨T3, s, 0, rfl, rfl, hT3.out, hEE.out.got _ hE.out, .inl hE.out⟩, hK3.out, b03.out, b13.out⟩
            case measure =>
              rw [hm3.out, hm.out, hT3o, (hF.out).over, hat]
              simp
      · have hok3 : entOk x c.cap = false := by simpa using hok2
        rw [hok3] at hEn hlk
        rw [if_neg (by decide)] at hlk
        have hso : s.over = true ∧ s.full = true ∧ s.ticket = 0 := by rw [hs', hlk]; exact ⟨rfl, rfl, rfl⟩
        replace hEn := Lib.hid hEn
        replace hlk := Lib.hid hlk
        replace hF := Lib.hid hF
        replace hs' := Lib.hid hs'
        replace hso := Lib.hid hso
        go_wp2_with fail
        refine (hEn.out _).mono ?_; rintro e w2 ⟨rfl, rfl⟩
        go_wp2_with fail
        refine gen_world (α := fun W' => bodyPost _ _ _ _ _ W') (fun W' => Blk W' (w.heap.size + 1) 169 #[.bool true, .int .i64 0] ∧ TapeIn W' tb A cc T2 ∧ Chg (fun k => k = tb) w W') ⟨Blk.eq_cs ((b12.out.set_ 0 _).set_ 1 _) rfl, (hT2.out.set_far (by show tb < w.heap.size + 1; omega) _).set_far (by show tb < w.heap.size + 1; omega) _, (hK2.out.setCell (.inr (by show w.heap.size ≤ w.heap.size + 1; omega)) _).setCell (.inr (by show w.heap.size ≤ w.heap.size + 1; omega)) _⟩ ?_
        rintro W' ⟨g1, g2, g3⟩
        have e0 := g1.cell 0
        have e1 := g1.cell 1
        refine bodyPost_ret (v := .tuple #[.agg #[.bool true, .int .i64 0], .int .i64 s.tries]) (by simp [results, Try.results94, go_sem, e0, e1]) rfl ?_
        exact ⟨T2, _, _, _, rfl, g2, g3, .inr ⟨s, hF.out, hso.out.1, hso.out.2.1, hso.out.2.2, Int.le_refl _, by decide⟩⟩
end Go.Proofs.Ytfelkkbgbgnpaaa
