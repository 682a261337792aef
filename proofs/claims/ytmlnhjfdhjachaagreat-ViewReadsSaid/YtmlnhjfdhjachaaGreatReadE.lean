import Derived.Test.YtmlnhjfdhjachaaGreatChainP
import Derived.Test.YtmlnhjfdhjachaaGreatRing
import Derived.Test.YtmlnhjfdhjachaaGreatPinZ
import Derived.Test.YtmlnhjfdhjachaaGreatReadW
import Derived.Test.YtmlnhjfdhjachaaGreatFindZ
/-
  The document's going down a chain on a tape, from some place on (layer 24). No condition.
-/
namespace Go.Proofs.YtmlnhjfdhjachaaGreat
set_option linter.unusedVariables false
open Go.ChangeShapes Go.WideShapes Go.ChangeAt Go.RowKit
open Go.ChangeMaps (setBlock)

/-- What the document's going down a chain leaves. -/
def ChainPostZ (a0 : Nat) (E : PTape → Prop) (s0 : PChain) (Q : List PGot) (w : World) (tb : Nat) (A : Option Addr) (cc : Nat) (e : Ending) (w' : World) : Prop :=
  ∃ T' h t k p, e = .returned (.tuple #[.agg #[.bool h, .string t, .int .u64 k], .int .i64 p]) ∧ TapeIn w' tb A cc T' ∧ Chg (fun k => k = tb) w w' ∧
    (E T' ∨ ∃ s, FedA a0 PChain.act PChain.take s0 Q T' s ∧ s.part = 6 ∧ s.has = h ∧ s.text = t)
def chAt (cell ep x part p : Int) : PChain := ⟨cell, ep, x, part, false, ByteArray.empty, 0, p⟩
theorem chAt_down (cell ep y part p x : Int) : (chAt cell ep y part p).down x = if x = 0 then chAt cell ep 0 6 p else chAt cell ep x 2 p := by
  unfold PChain.down PChain.done_ chAt
  split
  · rename_i h; rw [h]
  · rfl
/-- Between two rounds. -/
structure ChRelZ (a0 : Nat) (E : PTape → Prop) (cell ep : Int) (w : World) (tb : Nat) (A : Option Addr) (cc : Nat) (c : PCfg) (s0 : PChain) (Q : List PGot) (bv nv : Value) (wr : World) : Prop where
  ex : ∃ (T : PTape) (x p : Int), bv = .int .u64 x ∧ nv = .int .i64 p ∧ (0 ≤ x ∧ x ≤ 18446744073709551615) ∧ TapeIn wr tb A cc T ∧ T.got = Q ∧
    (E T ∨ FedA a0 PChain.act PChain.take s0 Q T (if x = 0 then chAt cell ep 0 6 p else chAt cell ep x 2 p))
  chg : Chg (fun k => k = tb) w wr
  b0 : Blk wr w.heap.size 24 #[.int .i64 c.cap, .int .i64 c.pins, .int .i64 c.shelves, .int .i64 c.queue, .int .i64 c.watchers, .int .u64 c.seed]
  b1 : Blk wr (w.heap.size + 1) 106 #[.bool false, .string ⟨#[]⟩, .int .u64 0]
set_option maxRecDepth 100000 in
set_option maxHeartbeats 4000000 in
theorem refChain_gen {w : World} {tb cc : Nat} {A : Option Addr} {T : PTape} (h : TapeIn w tb A cc T) {a0 : Nat} {E : PTape → Prop} {Q : List PGot} (c : PCfg) (hc : c.Right) (sh ep : Int) (hsh : 0 ≤ sh ∧ sh < c.shelves) (hep : 0 ≤ ep ∧ ep ≤ 18446744073709551615)
    (hEE : Ends a0 PChain.act PChain.take (newChain (3 + c.pins + c.cap + 2 * sh + 1) ep) Q E) (hst : E T ∨ FedA a0 PChain.act PChain.take (newChain (3 + c.pins + c.cap + 2 * sh + 1) ep) Q T (newChain (3 + c.pins + c.cap + 2 * sh + 1) ep)) (hok : ∀ g ∈ Q, g.Ok) :
    Calls Tryz.prog 46 #[.pointer (some ⟨tb, 0, none⟩), c.val, .int .i64 sh, .int .u64 ep] w (ChainPostZ a0 E (newChain (3 + c.pins + c.cap + 2 * sh + 1) ep) Q w tb A cc) := by
  have hAt := fun W => refHeadAt c hc sh.toNat (by omega) W
  rw [show ((sh.toNat : Nat) : Int) = sh by omega] at hAt
  have hp1 := hc.pins
  have hp2 := hc.cap
  have hp3 := hc.shelves
  have hs0 : newChain (3 + c.pins + c.cap + 2 * sh + 1) ep = chAt (3 + c.pins + c.cap + 2 * sh + 1) ep 0 1 0 := rfl
  rw [hs0] at hst hEE ⊢
  clear hs0
  generalize hcell : 3 + c.pins + c.cap + 2 * sh + 1 = cell at *
  have ha0 : PChain.act (chAt cell ep 0 1 0) = (⟨1, 1, cell, 0, 0, ByteArray.empty⟩, true) := rfl
  have htk0 : ∀ g, PChain.take (chAt cell ep 0 1 0) g = if g.word = 0 then chAt cell ep 0 6 0 else chAt cell ep g.word 2 0 := fun g => chAt_down _ _ _ _ _ _
  generalize hs0 : chAt cell ep 0 1 0 = s0 at *
  have hlt := h.blk.lt
  have hz : Below w.heap.size w ((w.alloc (.cells #[.int .i64 c.cap, .int .i64 c.pins, .int .i64 c.shelves, .int .i64 c.queue, .int .i64 c.watchers, .int .u64 c.seed] 24)).alloc (.cells #[.bool false, .string ⟨#[]⟩, .int .u64 0] 106)) := ((Below.refl _ _).alloc (Nat.le_refl _) _).alloc (by simp) _
  have hL0 := fun W (hb : Below ((w.alloc (.cells #[.int .i64 c.cap, .int .i64 c.pins, .int .i64 c.shelves, .int .i64 c.queue, .int .i64 c.watchers, .int .u64 c.seed] 24)).alloc (.cells #[.bool false, .string ⟨#[]⟩, .int .u64 0] 106)).heap.size ((w.alloc (.cells #[.int .i64 c.cap, .int .i64 c.pins, .int .i64 c.shelves, .int .i64 c.queue, .int .i64 c.watchers, .int .u64 c.seed] 24)).alloc (.cells #[.bool false, .string ⟨#[]⟩, .int .u64 0] 106)) W) => tape_load ((h.below hz).below hb) 1 cell
  have hK := Chg.of_below hz (fun k => k = tb)
  have B0 := (Blk.new w 24 #[.int .i64 c.cap, .int .i64 c.pins, .int .i64 c.shelves, .int .i64 c.queue, .int .i64 c.watchers, .int .u64 c.seed]).alloc (.cells #[.bool false, .string ⟨#[]⟩, .int .u64 0] 106)
  have B1 := Blk.new (w.alloc (.cells #[.int .i64 c.cap, .int .i64 c.pins, .int .i64 c.shelves, .int .i64 c.queue, .int .i64 c.watchers, .int .u64 c.seed] 24)) 106 #[.bool false, .string ⟨#[]⟩, .int .u64 0]
  simp only [World.size_alloc] at B1
  rw [show c.val = .agg #[.int .i64 c.cap, .int .i64 c.pins, .int .i64 c.shelves, .int .i64 c.queue, .int .i64 c.watchers, .int .u64 c.seed] from rfl] at hAt ⊢
  rcases hx : T.doAct ⟨1, 1, cell, 0, 0, ByteArray.empty⟩ with ⟨⟨gw, gt⟩, T1⟩
  rw [hx] at hL0
  have fx : (E T1 ∧ gw = 0) ∨ (PGot.Ok ⟨gw, gt⟩ ∧ FedA a0 PChain.act PChain.take s0 Q T1 (if gw = 0 then chAt cell ep 0 6 0 else chAt cell ep gw 2 0)) := by
    rcases hst with hE | hF
    · rw [over_do (hEE.over _ hE)] at hx
      injection hx with e1 e2
      injection e1 with e1 e3
      exact .inl ⟨e2 ▸ hE, e1.symm⟩
    · rcases hF.go2 ha0 with ⟨g, hg, e, hF2⟩ | ⟨e, hE, _⟩
      · rw [hx] at e
        injection e with e1 e2
        rw [htk0, ← e1, ← e2] at hF2
        exact .inr ⟨e1 ▸ hok _ (List.mem_of_getElem? hg), hF2⟩
      · rw [hx] at e
        injection e with e1 e2
        injection e1 with e1 e3
        exact .inl ⟨by rw [e2]; exact hEE.of _ hE, e1⟩
  simp only at hL0
  replace h := Lib.hid h
  replace hst := Lib.hid hst
  replace hEE := Lib.hid hEE
  replace hx := Lib.hid hx
  replace hL0 := Lib.hid hL0
  replace hK := Lib.hid hK
  replace B0 := Lib.hid B0
  replace B1 := Lib.hid B1
  replace fx := Lib.hid fx
  replace ha0 := Lib.hid ha0
  replace hz := Lib.hid hz
  replace hAt := Lib.hid hAt
  replace hcell := Lib.hid hcell
  replace htk0 := Lib.hid htk0
  replace hs0 := Lib.hid hs0
  go_enter Tryz.func46, Tryz.ntmps46
  go_wp2_with fail
  refine (hAt.out _).mono ?_; rintro e w0 ⟨rfl, hb0⟩
  have B0' := B0.out.below hb0 (by simp; omega)
  have B1' := B1.out.below hb0 (by simp)
  have hK0 := hK.out.next_ hb0
  have hL1 := hL0.out _ hb0
  have hb0s := hb0.size
  simp only [World.size_alloc] at hb0s
  clear hb0
  replace B0' := Lib.hid B0'
  replace B1' := Lib.hid B1'
  replace hK0 := Lib.hid hK0
  replace hL1 := Lib.hid hL1
  go_wp2_with fail
  refine (hL1.out).mono ?_; rintro e w1 ⟨rfl, hT1, hC1⟩
  have hsz := hC1.size
  have b0 := B0'.out.keep (hC1.block w.heap.size B0'.out.lt (by omega))
  have b1 := B1'.out.keep (hC1.block (w.heap.size + 1) B1'.out.lt (by omega))
  have hK1 := hK0.out.trans hC1 fun i hi => Or.inl hi
  replace hT1 := Lib.hid hT1
  replace hC1 := Lib.hid hC1
  replace b0 := Lib.hid b0
  replace b1 := Lib.hid b1
  replace hK1 := Lib.hid hK1
  go_wp2_with fail
  go_loopw [10, 11] (fun bv nv wr => ChRelZ a0 E cell ep w tb A cc c s0 Q bv nv wr) (fun _ _ wr => tapeM tb Q.length wr)
  case atStart =>
    rcases fx.out with ⟨hE, e⟩ | ⟨hgo, hF⟩
    · subst e
      exact ⟨⟨_, 0, 0, rfl, rfl, ⟨Int.le_refl _, by decide⟩, hT1.out, hEE.out.got _ hE, .inl hE⟩, hK1.out, b0.out, b1.out⟩
    · exact ⟨⟨_, gw, 0, rfl, rfl, hgo, hT1.out, hF.got, .inr hF⟩, hK1.out, b0.out, b1.out⟩
  case round =>
    obtain ⟨⟨T2, x, p, rfl, rfl, hx0, hT2, hQ2, hcase⟩, hK2, b02, b12⟩ := hrel
    have t2 : wr.cell? ⟨tb, 2, none⟩ = some (.bool T2.over) := hT2.blk.cell 2
    have hm := tapeM_eq hT2 Q.length
    have r0 := b12.cell 0
    have r1 := b12.cell 1
    have r2 := b12.cell 2
    have fr0 := b12.frozen 0
    have fr1 := b12.frozen 1
    have fr2 := b12.frozen 2
    have hs2 := b12.lt
    have htl := hT2.blk.lt
    replace b02 := Lib.hid b02
    replace b12 := Lib.hid b12
    replace hK2 := Lib.hid hK2
    replace hQ2 := Lib.hid hQ2
    replace hm := Lib.hid hm
    rcases hcase with hE | hF
    · rw [hEE.out.over _ hE] at t2
      replace hT2 := Lib.hid hT2
      replace hE := Lib.hid hE
      by_cases hx1 : x = 0
      · subst hx1
        as_aux_lemma =>
          go_wp2_with fail
          refine gen_world (α := fun W' => bodyPost _ _ _ _ _ W') (fun W' => Blk W' (w.heap.size + 1) 106 #[.bool false, .string ⟨#[]⟩, .int .u64 0] ∧ TapeIn W' tb A cc T2 ∧ Chg (fun k => k = tb) w W') ⟨Blk.eq_cs (((b12.out.set_ 0 _).set_ 1 _).set_ 2 _) rfl, ((hT2.out.set_far (by show tb < w.heap.size + 1; omega) _).set_far (by show tb < w.heap.size + 1; omega) _).set_far (by show tb < w.heap.size + 1; omega) _, ?_⟩ ?_
          · refine Chg.setCell (Chg.setCell (Chg.setCell hK2.out ?_ _) ?_ _) ?_ _ <;> exact .inr (by show w.heap.size ≤ w.heap.size + 1; omega)
          rintro W' ⟨g1, g2, g3⟩
          have e0 := g1.cell 0
          have e1 := g1.cell 1
          have e2 := g1.cell 2
          refine bodyPost_ret (v := .tuple #[.agg #[.bool false, .string ⟨#[]⟩, .int .u64 0], .int .i64 p]) (by simp [results, Tryz.results46, go_sem, e0, e1, e2]) rfl ?_
          exact ⟨T2, _, _, _, _, rfl, g2, g3, .inl hE.out⟩
      · have d1 : (x == 0) = false := by simp [hx1]
        have d2 : (x != 0) = true := by simp [hx1]
        replace hx1 := Lib.hid hx1
        as_aux_lemma =>
          go_wp2_with fail
          refine gen_world (α := fun W' => bodyPost _ _ _ _ _ W') (fun W' => Blk W' (w.heap.size + 1) 106 #[.bool false, .string ⟨#[]⟩, .int .u64 0] ∧ TapeIn W' tb A cc T2 ∧ Chg (fun k => k = tb) w W') ⟨Blk.eq_cs (((b12.out.set_ 0 _).set_ 1 _).set_ 2 _) rfl, ((hT2.out.set_far (by show tb < w.heap.size + 1; omega) _).set_far (by show tb < w.heap.size + 1; omega) _).set_far (by show tb < w.heap.size + 1; omega) _, ?_⟩ ?_
          · refine Chg.setCell (Chg.setCell (Chg.setCell hK2.out ?_ _) ?_ _) ?_ _ <;> exact .inr (by show w.heap.size ≤ w.heap.size + 1; omega)
          rintro W' ⟨g1, g2, g3⟩
          have e0 := g1.cell 0
          have e1 := g1.cell 1
          have e2 := g1.cell 2
          refine bodyPost_ret (v := .tuple #[.agg #[.bool false, .string ⟨#[]⟩, .int .u64 0], .int .i64 p]) (by simp [results, Tryz.results46, go_sem, e0, e1, e2]) rfl ?_
          exact ⟨T2, _, _, _, _, rfl, g2, g3, .inl hE.out⟩
    · have hEo := hF.over
      rw [hEo] at t2
      by_cases hx1 : x = 0
      · subst hx1
        simp only [if_true] at hF
        replace hT2 := Lib.hid hT2
        replace hF := Lib.hid hF
        as_aux_lemma =>
          go_wp2_with fail
          refine gen_world (α := fun W' => bodyPost _ _ _ _ _ W') (fun W' => Blk W' (w.heap.size + 1) 106 #[.bool false, .string ⟨#[]⟩, .int .u64 0] ∧ TapeIn W' tb A cc T2 ∧ Chg (fun k => k = tb) w W') ⟨Blk.eq_cs (((b12.out.set_ 0 _).set_ 1 _).set_ 2 _) rfl, ((hT2.out.set_far (by show tb < w.heap.size + 1; omega) _).set_far (by show tb < w.heap.size + 1; omega) _).set_far (by show tb < w.heap.size + 1; omega) _, ?_⟩ ?_
          · refine Chg.setCell (Chg.setCell (Chg.setCell hK2.out ?_ _) ?_ _) ?_ _ <;> exact .inr (by show w.heap.size ≤ w.heap.size + 1; omega)
          rintro W' ⟨g1, g2, g3⟩
          have e0 := g1.cell 0
          have e1 := g1.cell 1
          have e2 := g1.cell 2
          refine bodyPost_ret (v := .tuple #[.agg #[.bool false, .string ⟨#[]⟩, .int .u64 0], .int .i64 p]) (by simp [results, Tryz.results46, go_sem, e0, e1, e2]) rfl ?_
          exact ⟨T2, _, _, _, _, rfl, g2, g3, .inr ⟨_, hF.out, rfl, rfl, rfl⟩⟩
      · rw [if_neg hx1] at hF
        have d1 : (x == 0) = false := by simp [hx1]
        have d2 : (x != 0) = true := by simp [hx1]
        have ha2 : PChain.act (chAt cell ep x 2 p) = (⟨1, x, 0, 0, 0, ByteArray.empty⟩, true) := rfl
        have htk2 : ∀ g, PChain.take (chAt cell ep x 2 p) g = if ep < g.word then chAt cell ep x 3 p else chAt cell ep x 4 p := fun g => rfl
        have fx2 := hF.go2 ha2
        have hLd := tape_load hT2 x 0
        rcases hx2 : T2.doAct ⟨1, x, 0, 0, 0, ByteArray.empty⟩ with ⟨⟨ew, et⟩, T3⟩
        rw [hx2] at hLd fx2
        simp only at hLd
        replace hT2 := Lib.hid hT2
        replace hF := Lib.hid hF
        replace hLd := Lib.hid hLd
        replace hx2 := Lib.hid hx2
        replace ha2 := Lib.hid ha2
        replace hx1 := Lib.hid hx1
        replace htk2 := Lib.hid htk2
        replace fx2 := Lib.hid fx2
        go_wp2_with fail
        refine (hLd.out).mono ?_; rintro e w3 ⟨rfl, hT3, hC3⟩
        have u3 : w3.cell? ⟨tb, 2, none⟩ = some (.bool T3.over) := hT3.blk.cell 2
        have b03 := b02.out.keep (hC3.block _ b02.out.lt (by omega))
        have b13 := b12.out.keep (hC3.block _ b12.out.lt (by omega))
        have hK3 := hK2.out.trans hC3 fun i hi => Or.inl hi
        have r30 := b13.cell 0
        have r31 := b13.cell 1
        have r32 := b13.cell 2
        have fr30 := b13.frozen 0
        have fr31 := b13.frozen 1
        have fr32 := b13.frozen 2
        replace hC3 := Lib.hid hC3
        replace b03 := Lib.hid b03
        replace b13 := Lib.hid b13
        replace hK3 := Lib.hid hK3
        clear r0 r1 r2 fr0 fr1 fr2 t2
        rcases fx2.out with ⟨g, hg, e, hF3⟩ | ⟨e, hE3, _⟩
        · injection e with e1 e2
          subst e1
          have hew : PGot.Ok ⟨ew, et⟩ := hok _ (List.mem_of_getElem? hg)
          have hew1 : 0 ≤ ew := hew.1
          have hew2 : ew ≤ 18446744073709551615 := hew.2
          have hT3o : T3.over = false := by rw [e2]; exact hEo
          have hat3 := congrArg PTape.at_ e2
          have hatl3 := (List.getElem?_eq_some_iff.mp hg).1
          rw [htk2.out, ← e2] at hF3
          rw [hT3o] at u3
          simp only at hat3
          replace e2 := Lib.hid e2
          replace hg := Lib.hid hg
          by_cases hle : ep < ew
          · rw [if_pos hle] at hF3
            have d3 : decide (ew ≤ ep) = false := by simp; omega
            have ha3 : PChain.act (chAt cell ep x 3 p) = (⟨1, x, 1, 0, 0, ByteArray.empty⟩, true) := rfl
            have htk3 : ∀ g, PChain.take (chAt cell ep x 3 p) g = if g.word = 0 then chAt cell ep 0 6 (IntKind.i64.wrap (p + 1)) else chAt cell ep g.word 2 (IntKind.i64.wrap (p + 1)) := fun g => chAt_down cell ep x 3 (IntKind.i64.wrap (p + 1)) g.word
            have fx3 := hF3.go2 ha3
            have hLd3 := tape_load hT3 x 1
            rcases hx3 : T3.doAct ⟨1, x, 1, 0, 0, ByteArray.empty⟩ with ⟨⟨nw', nt⟩, T4⟩
            rw [hx3] at hLd3 fx3
            simp only at hLd3
            replace hT3 := Lib.hid hT3
            replace hF3 := Lib.hid hF3
            replace hLd3 := Lib.hid hLd3
            replace hx3 := Lib.hid hx3
            replace ha3 := Lib.hid ha3
            replace htk3 := Lib.hid htk3
            replace fx3 := Lib.hid fx3
            replace hle := Lib.hid hle
            go_wp2_with fail
            refine (hLd3.out).mono ?_; rintro e w4 ⟨rfl, hT4, hC4⟩
            have u4 : w4.cell? ⟨tb, 2, none⟩ = some (.bool T4.over) := hT4.blk.cell 2
            have b04 := b03.out.keep (hC4.block _ b03.out.lt (by omega))
            have b14 := b13.out.keep (hC4.block _ b13.out.lt (by omega))
            have hK4 := hK3.out.trans hC4 fun i hi => Or.inl hi
            have r40 := b14.cell 0
            have r41 := b14.cell 1
            have r42 := b14.cell 2
            have fr40 := b14.frozen 0
            have fr41 := b14.frozen 1
            have fr42 := b14.frozen 2
            replace hC4 := Lib.hid hC4
            replace b04 := Lib.hid b04
            replace b14 := Lib.hid b14
            replace hK4 := Lib.hid hK4
            clear r30 r31 r32 fr30 fr31 fr32 u3
            have hm4 := tapeM_eq hT4 Q.length
            rcases fx3.out with ⟨g4, hg4, e4, hF4⟩ | ⟨e4, hE4, _⟩
            · injection e4 with e41 e42
              subst e41
              have hnw : PGot.Ok ⟨nw', nt⟩ := hok _ (List.mem_of_getElem? hg4)
              have hT4o : T4.over = false := by rw [e42]; exact hT3o
              have hat4 := congrArg PTape.at_ e42
              have hatl4 := (List.getElem?_eq_some_iff.mp hg4).1
              rw [htk3.out, ← e42] at hF4
              rw [hT4o] at u4
              simp only at hat4
              replace e42 := Lib.hid e42
              replace hg4 := Lib.hid hg4
              replace hT4 := Lib.hid hT4
              replace hF4 := Lib.hid hF4
              replace hm4 := Lib.hid hm4
              go_wp2_with fail
              go_roundw
              case rel => exact ⟨⟨T4, nw', IntKind.i64.wrap (p + 1), rfl, by rw [IntWalk.i64_left], hnw, hT4.out, hF4.out.got, .inr hF4.out⟩, hK4.out, b04.out, b14.out⟩
              case measure =>
                rw [hm4.out, hm.out, hT4o, hEo, hat4, hat3]
                simp
                omega
            · injection e4 with e41 e42
              injection e41 with e41 e43
              subst e41
              have hT4o : T4.over = true := by rw [e42]
              have hat4 := congrArg PTape.at_ e42
              rw [← e42] at hE4
              rw [hT4o] at u4
              simp only at hat4
              have hE5 := hEE.out.of _ hE4
              replace e42 := Lib.hid e42
              replace hE4 := Lib.hid hE4
              replace hE5 := Lib.hid hE5
              replace hT4 := Lib.hid hT4
              replace hm4 := Lib.hid hm4
              go_wp2_with fail
              go_roundw
              case rel => exact ⟨⟨T4, 0, p, rfl, rfl, ⟨Int.le_refl _, by decide⟩, hT4.out, hEE.out.got _ hE5.out, .inl hE5.out⟩, hK4.out, b04.out, b14.out⟩
              case measure =>
                rw [hm4.out, hm.out, hT4o, hEo, hat4, hat3]
                simp
                omega
          · rw [if_neg hle] at hF3
            have d3 : decide (ew ≤ ep) = true := by simp; omega
            have ha3 : PChain.act (chAt cell ep x 4 p) = (⟨1, x, 2, 0, 0, ByteArray.empty⟩, true) := rfl
            have htk3 : ∀ g, PChain.take (chAt cell ep x 4 p) g = if g.word = 0 then ⟨cell, ep, x, 6, false, ByteArray.empty, x, p⟩ else chAt cell ep x 5 p := fun g => rfl
            have fx3 := hF3.go2 ha3
            have hLd3 := tape_load hT3 x 2
            rcases hx3 : T3.doAct ⟨1, x, 2, 0, 0, ByteArray.empty⟩ with ⟨⟨lw, lt⟩, T4⟩
            rw [hx3] at hLd3 fx3
            simp only at hLd3
            replace hT3 := Lib.hid hT3
            replace hF3 := Lib.hid hF3
            replace hLd3 := Lib.hid hLd3
            replace hx3 := Lib.hid hx3
            replace ha3 := Lib.hid ha3
            replace htk3 := Lib.hid htk3
            replace fx3 := Lib.hid fx3
            replace hle := Lib.hid hle
            go_wp2_with fail
            refine (hLd3.out).mono ?_; rintro e w4 ⟨rfl, hT4, hC4⟩
            have u4 : w4.cell? ⟨tb, 2, none⟩ = some (.bool T4.over) := hT4.blk.cell 2
            have b04 := b03.out.keep (hC4.block _ b03.out.lt (by omega))
            have b14 := b13.out.keep (hC4.block _ b13.out.lt (by omega))
            have hK4 := hK3.out.trans hC4 fun i hi => Or.inl hi
            have r40 := b14.cell 0
            have r41 := b14.cell 1
            have r42 := b14.cell 2
            have fr40 := b14.frozen 0
            have fr41 := b14.frozen 1
            have fr42 := b14.frozen 2
            replace hC4 := Lib.hid hC4
            replace b04 := Lib.hid b04
            replace b14 := Lib.hid b14
            replace hK4 := Lib.hid hK4
            clear r30 r31 r32 fr30 fr31 fr32 u3
            rcases fx3.out with ⟨g4, hg4, e4, hF4⟩ | ⟨e4, hE4, _⟩
            · injection e4 with e41 e42
              subst e41
              have hT4o : T4.over = false := by rw [e42]; exact hT3o
              rw [htk3.out, ← e42] at hF4
              rw [hT4o] at u4
              simp only at hF4
              replace e42 := Lib.hid e42
              replace hg4 := Lib.hid hg4
              by_cases hlw : lw = 0
              · subst hlw
                simp only [if_true] at hF4
                replace hF4 := Lib.hid hF4
                replace hT4 := Lib.hid hT4
                as_aux_lemma =>
                  go_wp2_with fail
                  refine gen_world (α := fun W' => bodyPost _ _ _ _ _ W') (fun W' => Blk W' (w.heap.size + 1) 106 #[.bool false, .string ⟨#[]⟩, .int .u64 x] ∧ TapeIn W' tb A cc T4 ∧ Chg (fun k => k = tb) w W') ⟨Blk.eq_cs (((b14.out.set_ 0 _).set_ 1 _).set_ 2 _) rfl, ((hT4.out.set_far (by show tb < w.heap.size + 1; omega) _).set_far (by show tb < w.heap.size + 1; omega) _).set_far (by show tb < w.heap.size + 1; omega) _, ?_⟩ ?_
                  · refine Chg.setCell (Chg.setCell (Chg.setCell hK4.out ?_ _) ?_ _) ?_ _ <;> exact .inr (by show w.heap.size ≤ w.heap.size + 1; omega)
                  rintro W' ⟨g1, g2, g3⟩
                  have e0 := g1.cell 0
                  have e1 := g1.cell 1
                  have e2 := g1.cell 2
                  refine bodyPost_ret (v := .tuple #[.agg #[.bool false, .string ⟨#[]⟩, .int .u64 x], .int .i64 p]) (by simp [results, Tryz.results46, go_sem, e0, e1, e2]) rfl ?_
                  exact ⟨T4, _, _, _, _, rfl, g2, g3, .inr ⟨_, hF4.out, rfl, rfl, rfl⟩⟩
              · rw [if_neg hlw] at hF4
                have d4 : (lw == 0) = false := by simp [hlw]
                have ha4 : PChain.act (chAt cell ep x 5 p) = (⟨6, x, 0, 0, 0, ByteArray.empty⟩, true) := rfl
                have htk4 : ∀ g, PChain.take (chAt cell ep x 5 p) g = ⟨cell, ep, x, 6, true, g.text, x, p⟩ := fun g => rfl
                have fx4 := hF4.go2 ha4
                have hLd4 := tape_words hT4 x
                rcases hx4 : T4.doAct ⟨6, x, 0, 0, 0, ByteArray.empty⟩ with ⟨⟨zw, zt⟩, T5⟩
                rw [hx4] at hLd4 fx4
                simp only at hLd4
                replace hT4 := Lib.hid hT4
                replace hF4 := Lib.hid hF4
                replace hLd4 := Lib.hid hLd4
                replace hx4 := Lib.hid hx4
                replace ha4 := Lib.hid ha4
                replace htk4 := Lib.hid htk4
                replace fx4 := Lib.hid fx4
                replace hlw := Lib.hid hlw
                go_wp2_with fail
                refine (hLd4.out).mono ?_; rintro e w5 ⟨rfl, hT5, hC5⟩
                have u5 : w5.cell? ⟨tb, 2, none⟩ = some (.bool T5.over) := hT5.blk.cell 2
                have b05 := b04.out.keep (hC5.block _ b04.out.lt (by omega))
                have b15 := b14.out.keep (hC5.block _ b14.out.lt (by omega))
                have hK5 := hK4.out.trans hC5 fun i hi => Or.inl hi
                have r50 := b15.cell 0
                have r51 := b15.cell 1
                have r52 := b15.cell 2
                have fr50 := b15.frozen 0
                have fr51 := b15.frozen 1
                have fr52 := b15.frozen 2
                replace hC5 := Lib.hid hC5
                replace b05 := Lib.hid b05
                replace b15 := Lib.hid b15
                replace hK5 := Lib.hid hK5
                clear r40 r41 r42 fr40 fr41 fr42 u4
                have hfin : E T5 ∨ ∃ s, FedA a0 PChain.act PChain.take s0 Q T5 s ∧ s.part = 6 ∧ s.has = true ∧ s.text = zt := by
                  rcases fx4.out with ⟨g5, hg5, e5, hF5⟩ | ⟨e5, hE5, _⟩
                  · injection e5 with e51 e52
                    rw [htk4.out, ← e51, ← e52] at hF5
                    exact .inr ⟨_, hF5, rfl, rfl, rfl⟩
                  · injection e5 with e51 e52
                    rw [← e52] at hE5
                    exact .inl (hEE.out.of _ hE5)
                replace hT5 := Lib.hid hT5
                replace hfin := Lib.hid hfin
                as_aux_lemma =>
                  go_wp2_with fail
                  refine gen_world (α := fun W' => bodyPost _ _ _ _ _ W') (fun W' => Blk W' (w.heap.size + 1) 106 #[.bool true, .string zt, .int .u64 x] ∧ TapeIn W' tb A cc T5 ∧ Chg (fun k => k = tb) w W') ⟨Blk.eq_cs (((b15.out.set_ 0 _).set_ 1 _).set_ 2 _) rfl, ((hT5.out.set_far (by show tb < w.heap.size + 1; omega) _).set_far (by show tb < w.heap.size + 1; omega) _).set_far (by show tb < w.heap.size + 1; omega) _, ?_⟩ ?_
                  · refine Chg.setCell (Chg.setCell (Chg.setCell hK5.out ?_ _) ?_ _) ?_ _ <;> exact .inr (by show w.heap.size ≤ w.heap.size + 1; omega)
                  rintro W' ⟨g1, g2, g3⟩
                  have e0 := g1.cell 0
                  have e1 := g1.cell 1
                  have e2 := g1.cell 2
                  refine bodyPost_ret (v := .tuple #[.agg #[.bool true, .string zt, .int .u64 x], .int .i64 p]) (by simp [results, Tryz.results46, go_sem, e0, e1, e2]) rfl ?_
                  exact ⟨T5, _, _, _, _, rfl, g2, g3, hfin.out⟩
            · injection e4 with e41 e42
              injection e41 with e41 e43
              subst e41
              rw [← e42] at hE4
              have hE5 := hEE.out.of _ hE4
              replace e42 := Lib.hid e42
              replace hE4 := Lib.hid hE4
              replace hE5 := Lib.hid hE5
              replace hT4 := Lib.hid hT4
              as_aux_lemma =>
                go_wp2_with fail
                refine gen_world (α := fun W' => bodyPost _ _ _ _ _ W') (fun W' => Blk W' (w.heap.size + 1) 106 #[.bool false, .string ⟨#[]⟩, .int .u64 x] ∧ TapeIn W' tb A cc T4 ∧ Chg (fun k => k = tb) w W') ⟨Blk.eq_cs (((b14.out.set_ 0 _).set_ 1 _).set_ 2 _) rfl, ((hT4.out.set_far (by show tb < w.heap.size + 1; omega) _).set_far (by show tb < w.heap.size + 1; omega) _).set_far (by show tb < w.heap.size + 1; omega) _, ?_⟩ ?_
                · refine Chg.setCell (Chg.setCell (Chg.setCell hK4.out ?_ _) ?_ _) ?_ _ <;> exact .inr (by show w.heap.size ≤ w.heap.size + 1; omega)
                rintro W' ⟨g1, g2, g3⟩
                have e0 := g1.cell 0
                have e1 := g1.cell 1
                have e2 := g1.cell 2
                refine bodyPost_ret (v := .tuple #[.agg #[.bool false, .string ⟨#[]⟩, .int .u64 x], .int .i64 p]) (by simp [results, Tryz.results46, go_sem, e0, e1, e2]) rfl ?_
                exact ⟨T4, _, _, _, _, rfl, g2, g3, .inl hE5.out⟩
        · injection e with e1 e2
          injection e1 with e1 e3
          subst e1
          have hT3o : T3.over = true := by rw [e2]
          rw [hT3o] at u3
          rw [← e2] at hE3
          have hE5 := hEE.out.of _ hE3
          replace e2 := Lib.hid e2
          replace hE3 := Lib.hid hE3
          replace hE5 := Lib.hid hE5
          replace hT3 := Lib.hid hT3
          as_aux_lemma =>
            go_wp2_with fail
            refine gen_world (α := fun W' => bodyPost _ _ _ _ _ W') (fun W' => Blk W' (w.heap.size + 1) 106 #[.bool false, .string ⟨#[]⟩, .int .u64 0] ∧ TapeIn W' tb A cc T3 ∧ Chg (fun k => k = tb) w W') ⟨Blk.eq_cs (((b13.out.set_ 0 _).set_ 1 _).set_ 2 _) rfl, ((hT3.out.set_far (by show tb < w.heap.size + 1; omega) _).set_far (by show tb < w.heap.size + 1; omega) _).set_far (by show tb < w.heap.size + 1; omega) _, ?_⟩ ?_
            · refine Chg.setCell (Chg.setCell (Chg.setCell hK3.out ?_ _) ?_ _) ?_ _ <;> exact .inr (by show w.heap.size ≤ w.heap.size + 1; omega)
            rintro W' ⟨g1, g2, g3⟩
            have e0 := g1.cell 0
            have e1 := g1.cell 1
            have e2 := g1.cell 2
            refine bodyPost_ret (v := .tuple #[.agg #[.bool false, .string ⟨#[]⟩, .int .u64 0], .int .i64 p]) (by simp [results, Tryz.results46, go_sem, e0, e1, e2]) rfl ?_
            exact ⟨T3, _, _, _, _, rfl, g2, g3, .inl hE5.out⟩
end Go.Proofs.YtmlnhjfdhjachaaGreat

/-
  The document's reading on a tape (layer 26): the plain law of how it goes beside the routine; what stands still where the tape is over. No condition.
-/
namespace Go.Proofs.YtmlnhjfdhjachaaGreat
set_option linter.unusedVariables false
open Go.ChangeShapes Go.WideShapes Go.ChangeAt Go.RowKit
open Go.ChangeMaps (setBlock)

theorem wrap_succ (k : Nat) : IntKind.i64.wrap (IntKind.i64.wrap (k : Int) + 1) = IntKind.i64.wrap ((k + 1 : Nat) : Int) := by
  simp only [IntKind.wrap_i64]
  omega
theorem wrap_small (k : Nat) (h : k ≤ 1000000) : IntKind.i64.wrap (k : Int) = k := IntWalk.i64_in _ (by omega)
def rd1 (c : PCfg) (key : ByteArray) (k : Nat) (s : PPin) : PRead := ⟨c, key, 1, IntKind.i64.wrap (k : Int), s, 0, 0, false, newFind c key, newChain 0 0, 0, false, ByteArray.empty, 0⟩
def rd2 (c : PCfg) (key : ByteArray) (s : PPin) (m : Nat) (k : Nat) (f : PFind) : PRead := ⟨c, key, 2, IntKind.i64.wrap (k : Int), s, s.pin, s.epoch, false, f, newChain 0 0, 0, false, ByteArray.empty, IntKind.i64.wrap (m : Int)⟩
def rd3 (c : PCfg) (key : ByteArray) (s : PPin) (m : Nat) (f : PFind) (k : Nat) (x : PChain) : PRead := ⟨c, key, 3, IntKind.i64.wrap (k : Int), s, s.pin, s.epoch, false, f, x, 0, false, ByteArray.empty, IntKind.i64.wrap (m : Int)⟩
def rd4 (c : PCfg) (key : ByteArray) (s : PPin) (m : Nat) (f : PFind) (k : Nat) (x : PChain) (took : Bool) (value : ByteArray) : PRead := ⟨c, key, 4, IntKind.i64.wrap (k : Int), s, s.pin, s.epoch, false, f, x, 0, took, value, IntKind.i64.wrap (m : Int)⟩
theorem pin_go {s : PPin} (h : s.act.2 = true) : s.part ≠ 5 := fun e => by rw [PPin.act5 e] at h; cases h
theorem find_go {s : PFind} (h : s.act.2 = true) : s.kind = 0 := by
  unfold PFind.act PFind.idle at h
  by_cases hk : s.kind = 0
  · exact hk
  · have : (s.kind != 0) = true := by simp [hk]
    simp [this] at h
theorem chain_go {s : PChain} (h : s.act.2 = true) : s.part ≠ 6 := fun e => by simp [PChain.act, e] at h
theorem within1 (c : PCfg) (key : ByteArray) : Within PPin.act PPin.take PRead.act PRead.take (fun k s => (rd1 c key k s).settle1) := by
  refine ⟨fun k s h => ?_, fun k s g h => ?_⟩
  · have h1 := pin_go h
    simp [PRead.settle1, rd1, h1, PRead.act]
  · have h1 := pin_go h
    have e : (rd1 c key k s).settle1 = rd1 c key k s := by simp [PRead.settle1, rd1, h1]
    show (PRead.take ((rd1 c key k s).settle1) g) = _
    rw [e]
    show PRead.settle1 _ = _
    rw [show IntKind.i64.wrap ((rd1 c key k s).acts + 1) = IntKind.i64.wrap ((k + 1 : Nat) : Int) from wrap_succ k]
    rfl
theorem within2 (c : PCfg) (key : ByteArray) (s : PPin) (m : Nat) : Within PFind.act PFind.take PRead.act PRead.take (fun k f => (rd2 c key s m k f).settle2) := by
  refine ⟨fun k f h => ?_, fun k f g h => ?_⟩
  · have h1 := find_go h
    simp [PRead.settle2, rd2, h1, PRead.act]
  · have h1 := find_go h
    have e : (rd2 c key s m k f).settle2 = rd2 c key s m k f := by simp [PRead.settle2, rd2, h1]
    show (PRead.take ((rd2 c key s m k f).settle2) g) = _
    rw [e]
    show PRead.settle2 _ = _
    rw [show IntKind.i64.wrap ((rd2 c key s m k f).acts + 1) = IntKind.i64.wrap ((k + 1 : Nat) : Int) from wrap_succ k]
    rfl
theorem within3 (c : PCfg) (key : ByteArray) (s : PPin) (m : Nat) (f : PFind) : Within PChain.act PChain.take PRead.act PRead.take (fun k x => (rd3 c key s m f k x).settle3) := by
  refine ⟨fun k x h => ?_, fun k x g h => ?_⟩
  · have h1 := chain_go h
    simp [PRead.settle3, rd3, h1, PRead.act]
  · have h1 := chain_go h
    have e : (rd3 c key s m f k x).settle3 = rd3 c key s m f k x := by simp [PRead.settle3, rd3, h1]
    show (PRead.take ((rd3 c key s m f k x).settle3) g) = _
    rw [e]
    show PRead.settle3 _ = _
    rw [show IntKind.i64.wrap ((rd3 c key s m f k x).acts + 1) = IntKind.i64.wrap ((k + 1 : Nat) : Int) from wrap_succ k]
    rfl
/-- What holds of pinning, whatever is answered. -/
structure PinGood (c : PCfg) (s : PPin) : Prop where
  inv : PinInv c s
  ep : 0 ≤ s.epoch ∧ s.epoch ≤ 18446744073709551615
  pin : s.part = 5 → s.taken = false → 0 ≤ s.pin ∧ s.pin < c.pins
theorem PinGood.take {c : PCfg} {s : PPin} (h : PinGood c s) (g : PGot) (hg : g.Ok) : PinGood c (s.take g) := by
  refine ⟨h.inv.take g, ?_, fun h5 ht => ?_⟩
  · have h1 := h.ep
    have h2 : 0 ≤ g.word ∧ g.word ≤ 18446744073709551615 := hg
    unfold PPin.take
    repeat' split
    all_goals first | exact h1 | exact h2 | (show (0 : Int) ≤ 0 ∧ (0 : Int) ≤ 18446744073709551615; decide)
  · by_cases hp : s.part = 5
    · rw [PPin.take5 hp] at h5 ht ⊢
      exact h.pin h5 ht
    · exact pin_take_pin h.inv hp g h5 ht
theorem pinGood_feed {c : PCfg} : ∀ (gs : List PGot) (s : PPin), PinGood c s → (∀ g ∈ gs, g.Ok) → PinGood c (feed PPin.take s gs)
  | [], _, h, _ => h
  | g :: gs, s, h, hok => pinGood_feed gs (s.take g) (h.take g (hok g (by simp))) fun g' hg' => hok g' (by simp [hg'])
theorem pinGood_new (c : PCfg) (hc : c.Right) (th : Int) (hth : 0 ≤ th) : PinGood c (newPin c th) := ⟨newPin_inv c hc th hth, by show (0 : Int) ≤ 0 ∧ (0 : Int) ≤ 18446744073709551615; decide, fun h => by exact absurd h (by show ¬ (1 : Int) = 5; decide)⟩
/-- Behind pinning: the tape is over, or all pins are taken, or one is pinned. -/
def RMid1 (c : PCfg) (th : Int) (key : ByteArray) (Q : List PGot) (T : PTape) (p ep : Int) (tk : Bool) : Prop :=
  (tk = false → 0 ≤ p ∧ p < c.pins) ∧ ((EndedA 0 PRead.act PRead.take (newRead c th key) Q T) ∨
    (tk = true ∧ ∃ s, FedA 0 PRead.act PRead.take (newRead c th key) Q T s ∧ s.part = 5 ∧ s.code = 11 ∧ s.took = false ∧ s.value = ByteArray.empty ∧ s.mark = 0) ∨
    (tk = false ∧ (0 ≤ ep ∧ ep ≤ 18446744073709551615) ∧ ∃ s, s.pin = p ∧ s.epoch = ep ∧ FedA 0 PRead.act PRead.take (newRead c th key) Q T ((rd2 c key s T.at_ T.at_ (newFind c key)).settle2)))
theorem newRead_rd (c : PCfg) (hc : c.Right) (th : Int) (key : ByteArray) : newRead c th key = (rd1 c key 0 (newPin c th)).settle1 := by
  unfold newRead
  rw [if_pos ((PCfg.right_iff c).2 hc)]
  rfl
theorem read_mid1 {c : PCfg} (hc : c.Right) {th : Int} (hth : 0 ≤ th) {key : ByteArray} {Q : List PGot} (hok : ∀ g ∈ Q, g.Ok) {T T1 : PTape} (h0 : T.over = false) (h1 : T.at_ = 0) (h2 : T.act = noAct) (h3 : T.got = Q) {p ep : Int} {tk : Bool}
    (h : (EndedA 0 PPin.act PPin.take (newPin c th) Q T1 ∧ (tk = false → 0 ≤ p ∧ p < (newPin c th).cfg.pins)) ∨ ∃ s, FedA 0 PPin.act PPin.take (newPin c th) Q T1 s ∧ s.part = 5 ∧ s.pin = p ∧ s.epoch = ep ∧ s.taken = tk) : RMid1 c th key Q T1 p ep tk := by
  have F0 := FedA.start (act := PRead.act) (take := PRead.take) (newRead c th key) Q T h0 (by omega) h2 h3
  rw [h1] at F0
  have F1 : FedA 0 PRead.act PRead.take (newRead c th key) Q T ((rd1 c key T.at_ (newPin c th)).settle1) := by
    rw [h1, ← newRead_rd c hc th key]
    exact F0
  rcases h with ⟨hE, hr⟩ | ⟨s, hF, h5, rfl, rfl, rfl⟩
  · rw [← h1] at hE
    exact ⟨hr, .inl (hE.lift (within1 c key) F1)⟩
  · have hG : PinGood c s := by
      rw [hF.st]
      exact pinGood_feed _ _ (pinGood_new c hc th hth) fun g hg => hok g (by simpa using List.mem_of_mem_take hg)
    have hF' : FedA T.at_ PPin.act PPin.take (newPin c th) Q T1 s := by rw [h1]; exact hF
    have hF2 := FedA.lift (within1 c key) F1 hF'
    refine ⟨fun e => hG.pin h5 e, ?_⟩
    cases htk : s.taken with
    | true =>
      refine .inr (.inl ⟨rfl, _, hF2, ?_⟩)
      simp [PRead.settle1, rd1, h5, htk]
    | false =>
      refine .inr (.inr ⟨rfl, hG.ep, s, rfl, rfl, ?_⟩)
      refine hF2.eq ?_
      simp [PRead.settle1, rd1, h5, htk, rd2, PRead.settle2, newFind]
/-- Behind looking for the key. -/
def RMid2 (c : PCfg) (th : Int) (key : ByteArray) (Q : List PGot) (T : PTape) (p ep kd sh : Int) (m : Nat) : Prop :=
  (kd = 0 ∧ EndedA 0 PRead.act PRead.take (newRead c th key) Q T) ∨
  (kd = 1 ∧ (0 ≤ sh ∧ sh < c.shelves) ∧ ∃ s f, s.pin = p ∧ s.epoch = ep ∧ FedA 0 PRead.act PRead.take (newRead c th key) Q T ((rd3 c key s m f T.at_ (newChain (3 + c.pins + c.cap + 2 * sh + 1) ep)).settle3)) ∨
  (kd ≠ 0 ∧ kd ≠ 1 ∧ ∃ s f x, s.pin = p ∧ FedA 0 PRead.act PRead.take (newRead c th key) Q T (rd4 c key s m f T.at_ x false ByteArray.empty))
theorem read_mid2 {c : PCfg} {th : Int} {key : ByteArray} {Q : List PGot} {T1 T2 : PTape} {p ep kd sh : Int} {s : PPin} (hp : s.pin = p) (he : s.epoch = ep) (hF : FedA 0 PRead.act PRead.take (newRead c th key) Q T1 ((rd2 c key s T1.at_ T1.at_ (newFind c key)).settle2))
    (h : (EndedA T1.at_ PFind.act PFind.take (newFind c key) Q T2 ∧ kd = 0) ∨ ∃ f, FedA T1.at_ PFind.act PFind.take (newFind c key) Q T2 f ∧ f.kind = kd ∧ f.shelf = sh ∧ kd ≠ 0 ∧ (kd = 1 → 0 ≤ sh ∧ sh < c.shelves)) : RMid2 c th key Q T2 p ep kd sh T1.at_ := by
  rcases h with ⟨hE, rfl⟩ | ⟨f, hF2, rfl, rfl, h0, hr⟩
  · exact .inl ⟨rfl, hE.lift (within2 c key s T1.at_) hF⟩
  · have hF3 := FedA.lift (within2 c key s T1.at_) hF hF2
    by_cases h1 : f.kind = 1
    · refine .inr (.inl ⟨h1, hr h1, s, f, hp, he, hF3.eq ?_⟩)
      simp [PRead.settle2, rd2, h1, rd3, PRead.settle3, newChain, he]
    · refine .inr (.inr ⟨h0, h1, s, f, newChain 0 0, hp, hF3.eq ?_⟩)
      simp [PRead.settle2, rd2, h0, h1, rd4]
/-- Before the pin is freed. -/
def RMid3 (c : PCfg) (th : Int) (key : ByteArray) (Q : List PGot) (T : PTape) (p : Int) (took : Bool) (value : ByteArray) (m : Nat) : Prop :=
  EndedA 0 PRead.act PRead.take (newRead c th key) Q T ∨ ∃ s f x, s.pin = p ∧ FedA 0 PRead.act PRead.take (newRead c th key) Q T (rd4 c key s m f T.at_ x took value)
theorem read_mid3 {c : PCfg} {th : Int} {key : ByteArray} {Q : List PGot} {T2 T3 : PTape} {p ep sh : Int} {m : Nat} {s : PPin} {f : PFind} {hs : Bool} {tx : ByteArray} (hp : s.pin = p) (hF : FedA 0 PRead.act PRead.take (newRead c th key) Q T2 ((rd3 c key s m f T2.at_ (newChain (3 + c.pins + c.cap + 2 * sh + 1) ep)).settle3))
    (h : EndedA T2.at_ PChain.act PChain.take (newChain (3 + c.pins + c.cap + 2 * sh + 1) ep) Q T3 ∨ ∃ x, FedA T2.at_ PChain.act PChain.take (newChain (3 + c.pins + c.cap + 2 * sh + 1) ep) Q T3 x ∧ x.part = 6 ∧ x.has = hs ∧ x.text = tx) : RMid3 c th key Q T3 p hs tx m := by
  rcases h with hE | ⟨x, hF2, h6, rfl, rfl⟩
  · exact .inl (hE.lift (within3 c key s m f) hF)
  · have hF3 := FedA.lift (within3 c key s m f) hF hF2
    refine .inr ⟨s, f, x, hp, hF3.eq ?_⟩
    simp [PRead.settle3, rd3, h6, rd4]
theorem PRead.act5 {s : PRead} (h : s.part = 5) : s.act = (noAct, false) := by simp [PRead.act, h]
theorem PRead.take5 {s : PRead} (h : s.part = 5) (g : PGot) : s.take g = s := by simp [PRead.take, h]
/-- What is told at the end. -/
def ReadEnd (c : PCfg) (th : Int) (key : ByteArray) (Q : List PGot) (T : PTape) (code : Int) (took : Bool) (value : ByteArray) (mark : Int) : Prop :=
  T.over = (feed PRead.take (newRead c th key) Q).act.2 ∧ T.act = (feed PRead.take (newRead c th key) Q).act.1 ∧
    (T.over = false → (feed PRead.take (newRead c th key) Q).part = 5 ∧ (feed PRead.take (newRead c th key) Q).code = code ∧ (feed PRead.take (newRead c th key) Q).took = took ∧ (feed PRead.take (newRead c th key) Q).value = value ∧ (feed PRead.take (newRead c th key) Q).mark = mark)
theorem read_ended {c : PCfg} {th : Int} {key : ByteArray} {Q : List PGot} {T : PTape} (h : EndedA 0 PRead.act PRead.take (newRead c th key) Q T) (code : Int) (took : Bool) (value : ByteArray) (mark : Int) : ReadEnd c th key Q T code took value mark := by
  have hn := h.next
  rw [List.drop_zero] at hn
  refine ⟨?_, ?_, fun e => ?_⟩
  · rw [hn]; exact h.over
  · rw [hn]
  · rw [h.over] at e; cases e
theorem read_fed {c : PCfg} {th : Int} {key : ByteArray} {Q : List PGot} {T : PTape} {s : PRead} (h : FedA 0 PRead.act PRead.take (newRead c th key) Q T s) (h5 : s.part = 5) : ReadEnd c th key Q T s.code s.took s.value s.mark := by
  have hd := h.done fun g => PRead.take5 h5 g
  unfold ReadEnd
  rw [hd, PRead.act5 h5]
  exact ⟨h.over, h.idle, fun _ => ⟨h5, rfl, rfl, rfl, rfl⟩⟩
theorem read_free {c : PCfg} {th : Int} {key : ByteArray} {Q : List PGot} {T : PTape} {p : Int} {took : Bool} {value : ByteArray} {m : Nat} (hm : m ≤ 1000000) (h : RMid3 c th key Q T p took value m) :
    ReadEnd c th key Q (T.doAct ⟨2, 1, 3 + p, 0, 0, ByteArray.empty⟩).2 0 took value (m : Int) := by
  rcases h with hE | ⟨s, f, x, rfl, hF⟩
  · rw [over_do hE.over]
    exact read_ended hE _ _ _ _
  · have ha : PRead.act (rd4 c key s m f T.at_ x took value) = (⟨2, 1, 3 + s.pin, 0, 0, ByteArray.empty⟩, true) := rfl
    rcases hF.go2 ha with ⟨g, hg, e, hF2⟩ | ⟨e, hE, _⟩
    · rw [e]
      have h2 := read_fed hF2 rfl
      have h3 : ReadEnd c th key Q { T with at_ := T.at_ + 1 } 0 took value (IntKind.i64.wrap (m : Int)) := h2
      rw [wrap_small m hm] at h3
      exact h3
    · rw [e]
      exact read_ended hE _ _ _ _
end Go.Proofs.YtmlnhjfdhjachaaGreat
