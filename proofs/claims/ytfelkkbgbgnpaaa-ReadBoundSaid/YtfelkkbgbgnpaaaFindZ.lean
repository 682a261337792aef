import Derived.Test.YtfelkkbgbgnpaaaFindN
import Derived.Test.YtfelkkbgbgnpaaaRing
import Derived.Test.YtfelkkbgbgnpaaaTapeD
import Derived.Test.YtfelkkbgbgnpaaaPinZ
/-
  The document's looking for a key's shelf on a tape (layer 23). No condition.
-/
namespace Go.Proofs.Ytfelkkbgbgnpaaa
set_option linter.unusedVariables false
open Go.ChangeShapes Go.WideShapes Go.ChangeAt Go.RowKit
open Go.ChangeMaps (setBlock)

/-- What the document answers, by the routine. -/
def FindPost (s0 : PFind) (Q : List PGot) (w : World) (tb : Nat) (A : Option Addr) (cc : Nat) (e : Ending) (w' : World) : Prop :=
  ∃ T', e = .returned (.agg #[.int .i64 (feed PFind.take s0 Q).result.1.1, .int .i64 (feed PFind.take s0 Q).result.1.2]) ∧ TapeIn w' tb A cc T' ∧
    T'.over = (feed PFind.take s0 Q).act.2 ∧ T'.act = (feed PFind.take s0 Q).act.1 ∧ Chg (fun k => k = tb) w w'
/-- Where it stands: at the k-th place; with a block, or none. -/
def findAt (c : PCfg) (key : ByteArray) (k : Nat) (blk : Int) : PFind := ⟨c, key, sumP c.seed key, k, blk, 0, 0, true⟩
def findEnd (c : PCfg) (key : ByteArray) (k : Nat) (blk kind shelf : Int) : PFind := ⟨c, key, sumP c.seed key, k, blk, kind, shelf, true⟩
theorem findAt_act0 (c : PCfg) (key : ByteArray) (k : Nat) : (findAt c key k 0).act = (⟨1, 1, 3 + c.pins + c.cap + 2 * placeP (sumP c.seed key) c.shelves k, 0, 0, ByteArray.empty⟩, true) := by
  simp [PFind.act, PFind.idle, findAt, PFind.place]
theorem findAt_act (c : PCfg) (key : ByteArray) (k : Nat) (b : Int) (hb : b ≠ 0) : (findAt c key k b).act = (⟨6, b, 0, 0, 0, ByteArray.empty⟩, true) := by
  simp [PFind.act, PFind.idle, findAt, hb]
theorem findEnd_act (c : PCfg) (key : ByteArray) (k : Nat) (b kd sh : Int) (hk : kd ≠ 0) : (findEnd c key k b kd sh).act = (noAct, false) := by
  simp [PFind.act, PFind.idle, findEnd, hk]
theorem findEnd_take (c : PCfg) (key : ByteArray) (k : Nat) (b kd sh : Int) (hk : kd ≠ 0) (g : PGot) : (findEnd c key k b kd sh).take g = findEnd c key k b kd sh := by
  simp [PFind.take, PFind.idle, findEnd, hk]
theorem findEnd_result (c : PCfg) (key : ByteArray) (k : Nat) (b kd sh : Int) (hk : kd ≠ 0) : (findEnd c key k b kd sh).result = ((kd, sh), true) := by
  simp [PFind.result, findEnd, hk]
theorem findAt_result (c : PCfg) (key : ByteArray) (k : Nat) (b : Int) : (findAt c key k b).result = ((0, 0), false) := by simp [PFind.result, findAt]
theorem findAt_take0 (c : PCfg) (key : ByteArray) (k : Nat) (g : PGot) : (findAt c key k 0).take g = if g.word = 0 then findEnd c key k 0 2 (placeP (sumP c.seed key) c.shelves k) else findAt c key k g.word := by
  simp [PFind.take, PFind.idle, findAt, findEnd, PFind.place]
theorem findAt_take (c : PCfg) (key : ByteArray) (k : Nat) (b : Int) (hb : b ≠ 0) (g : PGot) : (findAt c key k b).take g = if g.text = key then findEnd c key k b 1 (placeP (sumP c.seed key) c.shelves k) else if (k : Int) + 1 = c.shelves then findEnd c key (k + 1) 0 3 0 else findAt c key (k + 1) 0 := by
  simp [PFind.take, PFind.idle, findAt, findEnd, PFind.place, hb]
  rfl
theorem newFind_at (c : PCfg) (hc : c.Right) (key : ByteArray) : newFind c key = findAt c key 0 0 := by
  unfold newFind findAt
  rw [(PCfg.right_iff c).2 hc]
  rfl
theorem find_ended {s0 s : PFind} {Q : List PGot} {T : PTape} (h : Ended PFind.act PFind.take s0 Q T) (hs : feed PFind.take s0 Q = s) (hr : s.result = ((0, 0), false)) {w w' : World} {tb cc : Nat} {A : Option Addr} (hT : TapeIn w' tb A cc T) (hC : Chg (fun k => k = tb) w w') :
    FindPost s0 Q w tb A cc (.returned (.agg #[.int .i64 0, .int .i64 0])) w' :=
  ⟨T, by rw [hs, hr], hT, by rw [h.act]; exact h.over, by rw [h.act], hC⟩
theorem find_fed {c : PCfg} {key : ByteArray} {k : Nat} {b kd sh : Int} (hk : kd ≠ 0) {s0 : PFind} {Q : List PGot} {T : PTape} (h : Fed PFind.take s0 Q T (findEnd c key k b kd sh)) {w w' : World} {tb cc : Nat} {A : Option Addr} (hT : TapeIn w' tb A cc T) (hC : Chg (fun k => k = tb) w w') :
    FindPost s0 Q w tb A cc (.returned (.agg #[.int .i64 kd, .int .i64 sh])) w' := by
  have hd := h.done fun g => findEnd_take c key k b kd sh hk g
  exact ⟨T, by rw [hd, findEnd_result _ _ _ _ _ _ hk], hT, by rw [hd, findEnd_act _ _ _ _ _ _ hk]; exact h.over, by rw [hd, findEnd_act _ _ _ _ _ _ hk]; exact h.act, hC⟩
/-- Between two rounds. -/
structure FindRel (w : World) (tb : Nat) (A : Option Addr) (cc : Nat) (c : PCfg) (key : ByteArray) (s0 : PFind) (Q : List PGot) (iv : Value) (wr : World) : Prop where
  ex : ∃ (T : PTape) (k : Nat), iv = .int .i64 k ∧ (k : Int) ≤ c.shelves ∧ TapeIn wr tb A cc T ∧ T.got = Q ∧
    ((Fed PFind.take s0 Q T (findAt c key k 0) ∧ (k : Int) < c.shelves) ∨ (Fed PFind.take s0 Q T (findEnd c key k 0 3 0) ∧ (k : Int) = c.shelves))
  chg : Chg (fun k => k = tb) w wr
  b0 : Blk wr w.heap.size 24 #[.int .i64 c.cap, .int .i64 c.pins, .int .i64 c.shelves, .int .i64 c.queue, .int .i64 c.watchers, .int .u64 c.seed]
  b1 : Blk wr (w.heap.size + 1) 131 #[.int .i64 0, .int .i64 0]
set_option maxRecDepth 100000 in
set_option maxHeartbeats 8000000 in
theorem refFind_any {w : World} {tb cc : Nat} {A : Option Addr} {T : PTape} (h : TapeIn w tb A cc T) (h0 : T.over = false) (h1 : T.at_ = 0) (h2 : T.act = noAct) (c : PCfg) (hc : c.Right) (key : ByteArray) (hkey : key.size ≤ 9223372036854775807) (hok : ∀ g ∈ T.got, g.Ok) :
    Calls Try.prog 66 #[.pointer (some ⟨tb, 0, none⟩), c.val, .string key] w (FindPost (newFind c key) T.got w tb A cc) := by
  have F0 := Fed.start (take := PFind.take) (newFind c key) T.got T h0 h1 h2 rfl
  rw [newFind_at c hc key] at F0 ⊢
  generalize hs0 : findAt c key 0 0 = s0 at *
  generalize hQ : T.got = Q at *
  have hlt := h.blk.lt
  have hz : Below w.heap.size w ((w.alloc (.cells #[.int .i64 c.cap, .int .i64 c.pins, .int .i64 c.shelves, .int .i64 c.queue, .int .i64 c.watchers, .int .u64 c.seed] 24)).alloc (.cells #[.int .i64 0, .int .i64 0] 131)) := ((Below.refl _ _).alloc (Nat.le_refl _) _).alloc (by simp) _
  have hT0 := h.below hz
  have hK := Chg.of_below hz (fun k => k = tb)
  have B0 := (Blk.new w 24 #[.int .i64 c.cap, .int .i64 c.pins, .int .i64 c.shelves, .int .i64 c.queue, .int .i64 c.watchers, .int .u64 c.seed]).alloc (.cells #[.int .i64 0, .int .i64 0] 131)
  have B1 := Blk.new (w.alloc (.cells #[.int .i64 c.cap, .int .i64 c.pins, .int .i64 c.shelves, .int .i64 c.queue, .int .i64 c.watchers, .int .u64 c.seed] 24)) 131 #[.int .i64 0, .int .i64 0]
  simp only [World.size_alloc] at B1
  have hp := hc.shelves
  have hp1 := hc.pins
  have hp2 := hc.cap
  have hAt := fun (k : Nat) (hk : (k : Int) < c.shelves) W => refKeyAt c hc k hk W
  have hSm := fun W => refSum_any c.seed key hkey W
  have hso := sumP_ok c.seed key
  have hPl := fun (k : Nat) (hk : (k : Int) < c.shelves) W => refPlace_any (sumP c.seed key) c.shelves k hso hp ⟨by omega, hk⟩ W
  rw [show c.val = .agg #[.int .i64 c.cap, .int .i64 c.pins, .int .i64 c.shelves, .int .i64 c.queue, .int .i64 c.watchers, .int .u64 c.seed] from rfl] at hAt ⊢
  replace h := Lib.hid h
  replace F0 := Lib.hid F0
  replace hT0 := Lib.hid hT0
  replace hK := Lib.hid hK
  replace B0 := Lib.hid B0
  replace B1 := Lib.hid B1
  replace hs0 := Lib.hid hs0
  replace hQ := Lib.hid hQ
  replace hz := Lib.hid hz
  replace hAt := Lib.hid hAt
  replace hSm := Lib.hid hSm
  replace hso := Lib.hid hso
  replace hPl := Lib.hid hPl
  clear h0 h1 h2
  go_enter Try.func66, Try.ntmps66
  go_wp2_with fail
  refine (hSm.out _).mono ?_; rintro e w1 ⟨rfl, rfl⟩
  go_wp2_with fail
  go_loopw [8] (fun iv wr => FindRel w tb A cc c key s0 Q iv wr) (fun _ wr => tapeM tb Q.length wr)
  case atStart => exact ⟨⟨T, 0, rfl, by show (0 : Int) ≤ c.shelves; omega, hT0.out, hQ.out, .inl ⟨by rw [hs0.out]; exact F0.out, by show (0 : Int) < c.shelves; omega⟩⟩, hK.out, B0.out, B1.out⟩
  case round =>
    obtain ⟨⟨T2, k, rfl, hkp, hT2, hQ2, hcase⟩, hK2, b02, b12⟩ := hrel
    have hm2 := tapeM_eq hT2 Q.length
    have c0 := b02.cell 0
    have c1 := b02.cell 1
    have c2 := b02.cell 2
    have c3 := b02.cell 3
    have c4 := b02.cell 4
    have c5 := b02.cell 5
    have r0 := b12.cell 0
    have r1 := b12.cell 1
    have fr0 := b12.frozen 0
    have fr1 := b12.frozen 1
    have hs2 := b02.lt
    have hs3 := b12.lt
    have htl := hT2.blk.lt
    replace b02 := Lib.hid b02
    replace b12 := Lib.hid b12
    replace hK2 := Lib.hid hK2
    replace hQ2 := Lib.hid hQ2
    replace hm2 := Lib.hid hm2
    rcases hcase with ⟨hF, hkl⟩ | ⟨hF, hke⟩
    · have hEo := hF.over
      have d2 : decide ((k : Int) < c.shelves) = true := by simp; omega
      have hPk := hPl.out k hkl
      have hA0 := findAt_act0 c key k
      obtain ⟨pl, hpl⟩ : ∃ pl : Nat, placeP (sumP c.seed key) c.shelves k = pl := ⟨(placeP (sumP c.seed key) c.shelves k).toNat, by have := placeP_ok (sumP c.seed key) c.shelves k hp.1; omega⟩
      have hpll : (pl : Int) < c.shelves := by rw [← hpl]; exact (placeP_ok _ _ _ hp.1).2
      rw [hpl] at hPk hA0
      have hAk := hAt.out pl hpll
      have hcx : ∃ cx : Int, 3 + c.pins + c.cap + 2 * (pl : Int) = cx := ⟨_, rfl⟩
      obtain ⟨cx, hcx⟩ := hcx
      rw [hcx] at hAk hA0
      have fx := hF.go2 hA0
      have hLd := fun W (hb : Below wr.heap.size wr W) => tape_load (hT2.below hb) 1 cx
      rcases hx : T2.doAct ⟨1, 1, cx, 0, 0, ByteArray.empty⟩ with ⟨⟨gw, gt⟩, T3⟩
      rw [hx] at hLd fx
      simp only at hLd
      have htk0 := findAt_take0 c key k ⟨gw, gt⟩
      rw [hpl] at htk0
      replace hT2 := Lib.hid hT2
      replace hF := Lib.hid hF
      replace hPk := Lib.hid hPk
      replace hAk := Lib.hid hAk
      replace hLd := Lib.hid hLd
      replace hx := Lib.hid hx
      replace hA0 := Lib.hid hA0
      replace hpl := Lib.hid hpl
      replace hcx := Lib.hid hcx
      replace htk0 := Lib.hid htk0
      replace fx := Lib.hid fx
      go_wp2_with fail
      refine (hPk.out _).mono ?_; rintro e w2 ⟨rfl, rfl⟩
      go_wp2_with fail
      refine (hAk.out _).mono ?_; rintro e w3 ⟨rfl, hb3⟩
      have b03 := b02.out.below hb3 b02.out.lt
      have b13 := b12.out.below hb3 b12.out.lt
      have hK3 := hK2.out.next_ hb3
      have hLd3 := hLd.out _ hb3
      clear hb3 c0 c1 c2 c3 c4 c5 r0 r1 fr0 fr1
      replace b03 := Lib.hid b03
      replace b13 := Lib.hid b13
      replace hK3 := Lib.hid hK3
      replace hLd3 := Lib.hid hLd3
      go_wp2_with fail
      refine (hLd3.out).mono ?_; rintro e w4 ⟨rfl, hT4, hC4⟩
      have t24 : w4.cell? ⟨tb, 2, none⟩ = some (.bool T3.over) := hT4.blk.cell 2
      have b04 := b03.out.keep (hC4.block _ b03.out.lt (by omega))
      have b14 := b13.out.keep (hC4.block _ b13.out.lt (by omega))
      have hK4 := hK3.out.trans hC4 fun i hi => Or.inl hi
      have r0 := b14.cell 0
      have r1 := b14.cell 1
      have fr0 := b14.frozen 0
      have fr1 := b14.frozen 1
      replace hC4 := Lib.hid hC4
      replace b04 := Lib.hid b04
      replace b14 := Lib.hid b14
      replace hK4 := Lib.hid hK4
      rcases fx.out with ⟨g, hg, e, hF3⟩ | ⟨e, hE, hS⟩
      · injection e with e1 e2
        subst e1
        have hgw : PGot.Ok ⟨gw, gt⟩ := hok _ (List.mem_of_getElem? hg)
        have hatl := (List.getElem?_eq_some_iff.mp hg).1
        have hT3o : T3.over = false := by rw [e2]; exact hEo
        rw [hT3o] at t24
        rw [← e2, htk0.out] at hF3
        have hv3 : 2 * (Q.length - T3.at_) + 1 < 2 * (Q.length - T2.at_) + 1 := by rw [e2]; show 2 * (Q.length - (T2.at_ + 1)) + 1 < _; omega
        try simp only at hF3
        replace e2 := Lib.hid e2
        replace hg := Lib.hid hg
        by_cases hg0 : gw = 0
        · subst hg0
          simp only [if_true] at hF3
          replace hF3 := Lib.hid hF3
          replace hT4 := Lib.hid hT4
          as_aux_lemma =>
            go_wp2_with fail
            refine gen_world (α := fun W' => bodyPost _ _ _ _ _ W') (fun W' => Blk W' (w.heap.size + 1) 131 #[.int .i64 2, .int .i64 pl] ∧ TapeIn W' tb A cc T3 ∧ Chg (fun k => k = tb) w W') ⟨?_, ?_, ?_⟩ ?_
            · exact Blk.eq_cs ((b14.out.set_ 0 _).set_ 1 _) rfl
            · exact (hT4.out.set_far (by show tb < w.heap.size + 1; omega) _).set_far (by show tb < w.heap.size + 1; omega) _
            · exact (hK4.out.setCell (.inr (by show w.heap.size ≤ w.heap.size + 1; omega)) _).setCell (.inr (by show w.heap.size ≤ w.heap.size + 1; omega)) _
            rintro W' ⟨g1, g2, g3⟩
            have e0 := g1.cell 0
            have e1 := g1.cell 1
            refine bodyPost_ret (v := .agg #[.int .i64 2, .int .i64 pl]) (by simp [results, Try.results66, go_sem, e0, e1]) rfl ?_
            exact find_fed (by decide) hF3.out g2 g3
        · rw [if_neg hg0] at hF3
          have d3 : (gw == 0) = false := by simp [hg0]
          have hA1 := findAt_act c key k gw hg0
          have fx4 := hF3.go2 hA1
          have hWd := tape_words hT4 gw
          rcases hx4 : T3.doAct ⟨6, gw, 0, 0, 0, ByteArray.empty⟩ with ⟨⟨zw, zt⟩, T5⟩
          rw [hx4] at hWd fx4
          simp only at hWd
          have htk1 := findAt_take c key k gw hg0 ⟨zw, zt⟩
          rw [hpl.out] at htk1
          replace hg0 := Lib.hid hg0
          replace hF3 := Lib.hid hF3
          replace hT4 := Lib.hid hT4
          replace hA1 := Lib.hid hA1
          replace fx4 := Lib.hid fx4
          replace hWd := Lib.hid hWd
          replace hx4 := Lib.hid hx4
          replace htk1 := Lib.hid htk1
          clear r0 r1 fr0 fr1
          go_wp2_with fail
          refine (hWd.out).mono ?_; rintro e w5 ⟨rfl, hT5, hC5⟩
          have t25 : w5.cell? ⟨tb, 2, none⟩ = some (.bool T5.over) := hT5.blk.cell 2
          have b05 := b04.out.keep (hC5.block _ b04.out.lt (by omega))
          have b15 := b14.out.keep (hC5.block _ b14.out.lt (by omega))
          have hK5 := hK4.out.trans hC5 fun i hi => Or.inl hi
          have r0 := b15.cell 0
          have r1 := b15.cell 1
          have fr0 := b15.frozen 0
          have fr1 := b15.frozen 1
          clear t24
          replace hC5 := Lib.hid hC5
          replace b05 := Lib.hid b05
          replace b15 := Lib.hid b15
          replace hK5 := Lib.hid hK5
          rcases fx4.out with ⟨g4, hg4, e4, hF5⟩ | ⟨e4, hE4, hS4⟩
          · injection e4 with e41 e42
            subst e41
            have hatl4 := (List.getElem?_eq_some_iff.mp hg4).1
            have hT5o : T5.over = false := by rw [e42]; exact hT3o
            rw [hT5o] at t25
            rw [← e42, htk1.out] at hF5
            have hv5 : 2 * (Q.length - T5.at_) + 1 < 2 * (Q.length - T3.at_) + 1 := by rw [e42]; show 2 * (Q.length - (T3.at_ + 1)) + 1 < _; omega
            try simp only at hF5
            replace e42 := Lib.hid e42
            replace hg4 := Lib.hid hg4
            by_cases hzk : zt = key
            · subst hzk
              simp only [if_true] at hF5
              replace hF5 := Lib.hid hF5
              replace hT5 := Lib.hid hT5
              as_aux_lemma =>
                go_wp2_with fail
                refine gen_world (α := fun W' => bodyPost _ _ _ _ _ W') (fun W' => Blk W' (w.heap.size + 1) 131 #[.int .i64 1, .int .i64 pl] ∧ TapeIn W' tb A cc T5 ∧ Chg (fun k => k = tb) w W') ⟨?_, ?_, ?_⟩ ?_
                · exact Blk.eq_cs ((b15.out.set_ 0 _).set_ 1 _) rfl
                · exact (hT5.out.set_far (by show tb < w.heap.size + 1; omega) _).set_far (by show tb < w.heap.size + 1; omega) _
                · exact (hK5.out.setCell (.inr (by show w.heap.size ≤ w.heap.size + 1; omega)) _).setCell (.inr (by show w.heap.size ≤ w.heap.size + 1; omega)) _
                rintro W' ⟨g1, g2, g3⟩
                have e0 := g1.cell 0
                have e1 := g1.cell 1
                refine bodyPost_ret (v := .agg #[.int .i64 1, .int .i64 pl]) (by simp [results, Try.results66, go_sem, e0, e1]) rfl ?_
                exact find_fed (by decide) hF5.out g2 g3
            · rw [if_neg hzk] at hF5
              have d5 := txt_ne hzk
              have d5b : (zt.toList == key.toList) = false := by rw [beq_eq_false_iff_ne]; exact d5
              have hm5 := tapeM_eq hT5 Q.length
              rw [hT5o] at hm5
              replace hT5 := Lib.hid hT5
              replace hzk := Lib.hid hzk
              replace hm5 := Lib.hid hm5
              have hcs : (Fed PFind.take s0 Q T5 (findAt c key (k + 1) 0) ∧ ((k + 1 : Nat) : Int) < c.shelves) ∨ (Fed PFind.take s0 Q T5 (findEnd c key (k + 1) 0 3 0) ∧ ((k + 1 : Nat) : Int) = c.shelves) := by
                by_cases hke : (k : Int) + 1 = c.shelves
                · rw [if_pos hke] at hF5
                  exact .inr ⟨hF5, by omega⟩
                · rw [if_neg hke] at hF5
                  exact .inl ⟨hF5, by omega⟩
              replace hcs := Lib.hid hcs
              replace hF5 := Lib.hid hF5
              as_aux_lemma =>
                go_wp2_with fail
                go_roundw
                case rel => exact ⟨⟨T5, k + 1, by go_num, by omega, hT5.out, (by rcases hcs.out with h | h <;> exact h.1.got), hcs.out⟩, hK5.out, b05.out, b15.out⟩
                case measure =>
                  rw [hm2.out, hm5.out, hEo]
                  show 2 * (Q.length - T5.at_) + 1 < 2 * (Q.length - T2.at_) + 1
                  omega
          · injection e4 with e41 e42
            have hT5o : T5.over = true := by rw [e42]
            rw [hT5o] at t25
            rw [← e42] at hE4
            replace hE4 := Lib.hid hE4
            replace hS4 := Lib.hid hS4
            replace e42 := Lib.hid e42
            replace e41 := Lib.hid e41
            replace hT5 := Lib.hid hT5
            as_aux_lemma =>
              go_wp2_with fail
              refine gen_world (α := fun W' => bodyPost _ _ _ _ _ W') (fun W' => Blk W' (w.heap.size + 1) 131 #[.int .i64 0, .int .i64 0] ∧ TapeIn W' tb A cc T5 ∧ Chg (fun k => k = tb) w W') ⟨?_, ?_, ?_⟩ ?_
              · exact Blk.eq_cs ((b15.out.set_ 0 _).set_ 1 _) rfl
              · exact (hT5.out.set_far (by show tb < w.heap.size + 1; omega) _).set_far (by show tb < w.heap.size + 1; omega) _
              · exact (hK5.out.setCell (.inr (by show w.heap.size ≤ w.heap.size + 1; omega)) _).setCell (.inr (by show w.heap.size ≤ w.heap.size + 1; omega)) _
              rintro W' ⟨g1, g2, g3⟩
              have e0 := g1.cell 0
              have e1 := g1.cell 1
              refine bodyPost_ret (v := .agg #[.int .i64 0, .int .i64 0]) (by simp [results, Try.results66, go_sem, e0, e1]) rfl ?_
              exact find_ended hE4.out hS4.out (findAt_result _ _ _ _) g2 g3
      · injection e with e1 e2
        injection e1 with e1 e3
        subst e1
        have hT3o : T3.over = true := by rw [e2]
        rw [hT3o] at t24
        rw [← e2] at hE
        replace hE := Lib.hid hE
        replace hS := Lib.hid hS
        replace e2 := Lib.hid e2
        replace e3 := Lib.hid e3
        replace hT4 := Lib.hid hT4
        as_aux_lemma =>
          go_wp2_with fail
          refine gen_world (α := fun W' => bodyPost _ _ _ _ _ W') (fun W' => Blk W' (w.heap.size + 1) 131 #[.int .i64 0, .int .i64 0] ∧ TapeIn W' tb A cc T3 ∧ Chg (fun k => k = tb) w W') ⟨?_, ?_, ?_⟩ ?_
          · exact Blk.eq_cs ((b14.out.set_ 0 _).set_ 1 _) rfl
          · exact (hT4.out.set_far (by show tb < w.heap.size + 1; omega) _).set_far (by show tb < w.heap.size + 1; omega) _
          · exact (hK4.out.setCell (.inr (by show w.heap.size ≤ w.heap.size + 1; omega)) _).setCell (.inr (by show w.heap.size ≤ w.heap.size + 1; omega)) _
          rintro W' ⟨g1, g2, g3⟩
          have e0 := g1.cell 0
          have e1 := g1.cell 1
          refine bodyPost_ret (v := .agg #[.int .i64 0, .int .i64 0]) (by simp [results, Try.results66, go_sem, e0, e1]) rfl ?_
          exact find_ended hE.out hS.out (findAt_result _ _ _ _) g2 g3
    · have d2 : decide ((k : Int) < c.shelves) = false := by simp; omega
      replace hT2 := Lib.hid hT2
      replace hF := Lib.hid hF
      replace hke := Lib.hid hke
      as_aux_lemma =>
        go_wp2_with fail
        refine gen_world (α := fun W' => bodyPost _ _ _ _ _ W') (fun W' => Blk W' (w.heap.size + 1) 131 #[.int .i64 3, .int .i64 0] ∧ TapeIn W' tb A cc T2 ∧ Chg (fun k => k = tb) w W') ⟨?_, ?_, ?_⟩ ?_
        · exact Blk.eq_cs ((b12.out.set_ 0 _).set_ 1 _) rfl
        · exact (hT2.out.set_far (by show tb < w.heap.size + 1; omega) _).set_far (by show tb < w.heap.size + 1; omega) _
        · exact (hK2.out.setCell (.inr (by show w.heap.size ≤ w.heap.size + 1; omega)) _).setCell (.inr (by show w.heap.size ≤ w.heap.size + 1; omega)) _
        rintro W' ⟨g1, g2, g3⟩
        have e0 := g1.cell 0
        have e1 := g1.cell 1
        refine bodyPost_ret (v := .agg #[.int .i64 3, .int .i64 0]) (by simp [results, Try.results66, go_sem, e0, e1]) rfl ?_
        exact find_fed (by decide) hF.out g2 g3
end Go.Proofs.Ytfelkkbgbgnpaaa

/-
  The document's looking for a key on a tape from some place on (layer 23). No condition.
-/
namespace Go.Proofs.Ytfelkkbgbgnpaaa
set_option linter.unusedVariables false
open Go.ChangeShapes Go.WideShapes Go.ChangeAt Go.RowKit
open Go.ChangeMaps (setBlock)

/-- What the document's looking leaves. -/
def FindPostZ (a0 : Nat) (c : PCfg) (s0 : PFind) (Q : List PGot) (w : World) (tb : Nat) (A : Option Addr) (cc : Nat) (e : Ending) (w' : World) : Prop :=
  ∃ T' kd sh, e = .returned (.agg #[.int .i64 kd, .int .i64 sh]) ∧ TapeIn w' tb A cc T' ∧ Chg (fun k => k = tb) w w' ∧
    ((EndedA a0 PFind.act PFind.take s0 Q T' ∧ kd = 0) ∨ ∃ s, FedA a0 PFind.act PFind.take s0 Q T' s ∧ s.kind = kd ∧ s.shelf = sh ∧ kd ≠ 0 ∧ (kd = 1 → 0 ≤ sh ∧ sh < c.shelves))
theorem find_endedZ {a0 : Nat} {c : PCfg} {s0 : PFind} {Q : List PGot} {T : PTape} (h : EndedA a0 PFind.act PFind.take s0 Q T) {w w' : World} {tb cc : Nat} {A : Option Addr} (hT : TapeIn w' tb A cc T) (hC : Chg (fun k => k = tb) w w') :
    FindPostZ a0 c s0 Q w tb A cc (.returned (.agg #[.int .i64 0, .int .i64 0])) w' := ⟨T, 0, 0, rfl, hT, hC, .inl ⟨h, rfl⟩⟩
theorem find_fedZ {a0 : Nat} {c : PCfg} {key : ByteArray} {k : Nat} {b kd sh : Int} (hk : kd ≠ 0) (hr : kd = 1 → 0 ≤ sh ∧ sh < c.shelves) {s0 : PFind} {Q : List PGot} {T : PTape} (h : FedA a0 PFind.act PFind.take s0 Q T (findEnd c key k b kd sh)) {w w' : World} {tb cc : Nat} {A : Option Addr} (hT : TapeIn w' tb A cc T) (hC : Chg (fun k => k = tb) w w') :
    FindPostZ a0 c s0 Q w tb A cc (.returned (.agg #[.int .i64 kd, .int .i64 sh])) w' := ⟨T, kd, sh, rfl, hT, hC, .inr ⟨_, h, rfl, rfl, hk, hr⟩⟩
/-- Between two rounds. -/
structure FindRelZ (a0 : Nat) (w : World) (tb : Nat) (A : Option Addr) (cc : Nat) (c : PCfg) (key : ByteArray) (s0 : PFind) (Q : List PGot) (iv : Value) (wr : World) : Prop where
  ex : ∃ (T : PTape) (k : Nat), iv = .int .i64 k ∧ (k : Int) ≤ c.shelves ∧ TapeIn wr tb A cc T ∧ T.got = Q ∧
    ((FedA a0 PFind.act PFind.take s0 Q T (findAt c key k 0) ∧ (k : Int) < c.shelves) ∨ (FedA a0 PFind.act PFind.take s0 Q T (findEnd c key k 0 3 0) ∧ (k : Int) = c.shelves))
  chg : Chg (fun k => k = tb) w wr
  b0 : Blk wr w.heap.size 24 #[.int .i64 c.cap, .int .i64 c.pins, .int .i64 c.shelves, .int .i64 c.queue, .int .i64 c.watchers, .int .u64 c.seed]
  b1 : Blk wr (w.heap.size + 1) 131 #[.int .i64 0, .int .i64 0]
set_option maxRecDepth 100000 in
set_option maxHeartbeats 8000000 in
theorem refFind_gen {w : World} {tb cc : Nat} {A : Option Addr} {T : PTape} (c : PCfg) (key : ByteArray) (h : TapeIn w tb A cc T) {a0 : Nat} {Q : List PGot} (hst : FedA a0 PFind.act PFind.take (newFind c key) Q T (newFind c key)) (hc : c.Right) (hkey : key.size ≤ 9223372036854775807) (hok : ∀ g ∈ Q, g.Ok) :
    Calls Try.prog 66 #[.pointer (some ⟨tb, 0, none⟩), c.val, .string key] w (FindPostZ a0 c (newFind c key) Q w tb A cc) := by
  have F0 := hst
  have hQ := hst.got
  rw [newFind_at c hc key] at F0 ⊢
  generalize hs0 : findAt c key 0 0 = s0 at *
  clear hst
  have hlt := h.blk.lt
  have hz : Below w.heap.size w ((w.alloc (.cells #[.int .i64 c.cap, .int .i64 c.pins, .int .i64 c.shelves, .int .i64 c.queue, .int .i64 c.watchers, .int .u64 c.seed] 24)).alloc (.cells #[.int .i64 0, .int .i64 0] 131)) := ((Below.refl _ _).alloc (Nat.le_refl _) _).alloc (by simp) _
  have hT0 := h.below hz
  have hK := Chg.of_below hz (fun k => k = tb)
  have B0 := (Blk.new w 24 #[.int .i64 c.cap, .int .i64 c.pins, .int .i64 c.shelves, .int .i64 c.queue, .int .i64 c.watchers, .int .u64 c.seed]).alloc (.cells #[.int .i64 0, .int .i64 0] 131)
  have B1 := Blk.new (w.alloc (.cells #[.int .i64 c.cap, .int .i64 c.pins, .int .i64 c.shelves, .int .i64 c.queue, .int .i64 c.watchers, .int .u64 c.seed] 24)) 131 #[.int .i64 0, .int .i64 0]
  simp only [World.size_alloc] at B1
  have hp := hc.shelves
  have hp1 := hc.pins
  have hp2 := hc.cap
  have hAt := fun (k : Nat) (hk : (k : Int) < c.shelves) W => refKeyAt c hc k hk W
  have hSm := fun W => refSum_any c.seed key hkey W
  have hso := sumP_ok c.seed key
  have hPl := fun (k : Nat) (hk : (k : Int) < c.shelves) W => refPlace_any (sumP c.seed key) c.shelves k hso hp ⟨by omega, hk⟩ W
  rw [show c.val = .agg #[.int .i64 c.cap, .int .i64 c.pins, .int .i64 c.shelves, .int .i64 c.queue, .int .i64 c.watchers, .int .u64 c.seed] from rfl] at hAt ⊢
  replace h := Lib.hid h
  replace F0 := Lib.hid F0
  replace hT0 := Lib.hid hT0
  replace hK := Lib.hid hK
  replace B0 := Lib.hid B0
  replace B1 := Lib.hid B1
  replace hs0 := Lib.hid hs0
  replace hQ := Lib.hid hQ
  replace hz := Lib.hid hz
  replace hAt := Lib.hid hAt
  replace hSm := Lib.hid hSm
  replace hso := Lib.hid hso
  replace hPl := Lib.hid hPl
  go_enter Try.func66, Try.ntmps66
  go_wp2_with fail
  refine (hSm.out _).mono ?_; rintro e w1 ⟨rfl, rfl⟩
  go_wp2_with fail
  go_loopw [8] (fun iv wr => FindRelZ a0 w tb A cc c key s0 Q iv wr) (fun _ wr => tapeM tb Q.length wr)
  case atStart => exact ⟨⟨T, 0, rfl, by show (0 : Int) ≤ c.shelves; omega, hT0.out, hQ.out, .inl ⟨by rw [hs0.out]; exact F0.out, by show (0 : Int) < c.shelves; omega⟩⟩, hK.out, B0.out, B1.out⟩
  case round =>
    obtain ⟨⟨T2, k, rfl, hkp, hT2, hQ2, hcase⟩, hK2, b02, b12⟩ := hrel
    have hm2 := tapeM_eq hT2 Q.length
    have c0 := b02.cell 0
    have c1 := b02.cell 1
    have c2 := b02.cell 2
    have c3 := b02.cell 3
    have c4 := b02.cell 4
    have c5 := b02.cell 5
    have r0 := b12.cell 0
    have r1 := b12.cell 1
    have fr0 := b12.frozen 0
    have fr1 := b12.frozen 1
    have hs2 := b02.lt
    have hs3 := b12.lt
    have htl := hT2.blk.lt
    replace b02 := Lib.hid b02
    replace b12 := Lib.hid b12
    replace hK2 := Lib.hid hK2
    replace hQ2 := Lib.hid hQ2
    replace hm2 := Lib.hid hm2
    rcases hcase with ⟨hF, hkl⟩ | ⟨hF, hke⟩
    · have hEo := hF.over
      have d2 : decide ((k : Int) < c.shelves) = true := by simp; omega
      have hPk := hPl.out k hkl
      have hA0 := findAt_act0 c key k
      obtain ⟨pl, hpl⟩ : ∃ pl : Nat, placeP (sumP c.seed key) c.shelves k = pl := ⟨(placeP (sumP c.seed key) c.shelves k).toNat, by have := placeP_ok (sumP c.seed key) c.shelves k hp.1; omega⟩
      have hpll : (pl : Int) < c.shelves := by rw [← hpl]; exact (placeP_ok _ _ _ hp.1).2
      rw [hpl] at hPk hA0
      have hAk := hAt.out pl hpll
      have hcx : ∃ cx : Int, 3 + c.pins + c.cap + 2 * (pl : Int) = cx := ⟨_, rfl⟩
      obtain ⟨cx, hcx⟩ := hcx
      rw [hcx] at hAk hA0
      have fx := hF.go2 hA0
      have hLd := fun W (hb : Below wr.heap.size wr W) => tape_load (hT2.below hb) 1 cx
      rcases hx : T2.doAct ⟨1, 1, cx, 0, 0, ByteArray.empty⟩ with ⟨⟨gw, gt⟩, T3⟩
      rw [hx] at hLd fx
      simp only at hLd
      have htk0 := findAt_take0 c key k ⟨gw, gt⟩
      rw [hpl] at htk0
      replace hT2 := Lib.hid hT2
      replace hF := Lib.hid hF
      replace hPk := Lib.hid hPk
      replace hAk := Lib.hid hAk
      replace hLd := Lib.hid hLd
      replace hx := Lib.hid hx
      replace hA0 := Lib.hid hA0
      replace hpl := Lib.hid hpl
      replace hcx := Lib.hid hcx
      replace htk0 := Lib.hid htk0
      replace fx := Lib.hid fx
      go_wp2_with fail
      refine (hPk.out _).mono ?_; rintro e w2 ⟨rfl, rfl⟩
      go_wp2_with fail
      refine (hAk.out _).mono ?_; rintro e w3 ⟨rfl, hb3⟩
      have b03 := b02.out.below hb3 b02.out.lt
      have b13 := b12.out.below hb3 b12.out.lt
      have hK3 := hK2.out.next_ hb3
      have hLd3 := hLd.out _ hb3
      clear hb3 c0 c1 c2 c3 c4 c5 r0 r1 fr0 fr1
      replace b03 := Lib.hid b03
      replace b13 := Lib.hid b13
      replace hK3 := Lib.hid hK3
      replace hLd3 := Lib.hid hLd3
      go_wp2_with fail
      refine (hLd3.out).mono ?_; rintro e w4 ⟨rfl, hT4, hC4⟩
      have t24 : w4.cell? ⟨tb, 2, none⟩ = some (.bool T3.over) := hT4.blk.cell 2
      have b04 := b03.out.keep (hC4.block _ b03.out.lt (by omega))
      have b14 := b13.out.keep (hC4.block _ b13.out.lt (by omega))
      have hK4 := hK3.out.trans hC4 fun i hi => Or.inl hi
      have r0 := b14.cell 0
      have r1 := b14.cell 1
      have fr0 := b14.frozen 0
      have fr1 := b14.frozen 1
      replace hC4 := Lib.hid hC4
      replace b04 := Lib.hid b04
      replace b14 := Lib.hid b14
      replace hK4 := Lib.hid hK4
      rcases fx.out with ⟨g, hg, e, hF3⟩ | ⟨e, hE, hS⟩
      · injection e with e1 e2
        subst e1
        have hgw : PGot.Ok ⟨gw, gt⟩ := hok _ (List.mem_of_getElem? hg)
        have hatl := (List.getElem?_eq_some_iff.mp hg).1
        have hT3o : T3.over = false := by rw [e2]; exact hEo
        rw [hT3o] at t24
        rw [← e2, htk0.out] at hF3
        have hv3 : 2 * (Q.length - T3.at_) + 1 < 2 * (Q.length - T2.at_) + 1 := by rw [e2]; show 2 * (Q.length - (T2.at_ + 1)) + 1 < _; omega
        try simp only at hF3
        replace e2 := Lib.hid e2
        replace hg := Lib.hid hg
        by_cases hg0 : gw = 0
        · subst hg0
          simp only [if_true] at hF3
          replace hF3 := Lib.hid hF3
          replace hT4 := Lib.hid hT4
          as_aux_lemma =>
            go_wp2_with fail
            refine gen_world (α := fun W' => bodyPost _ _ _ _ _ W') (fun W' => Blk W' (w.heap.size + 1) 131 #[.int .i64 2, .int .i64 pl] ∧ TapeIn W' tb A cc T3 ∧ Chg (fun k => k = tb) w W') ⟨?_, ?_, ?_⟩ ?_
            · exact Blk.eq_cs ((b14.out.set_ 0 _).set_ 1 _) rfl
            · exact (hT4.out.set_far (by show tb < w.heap.size + 1; omega) _).set_far (by show tb < w.heap.size + 1; omega) _
            · exact (hK4.out.setCell (.inr (by show w.heap.size ≤ w.heap.size + 1; omega)) _).setCell (.inr (by show w.heap.size ≤ w.heap.size + 1; omega)) _
            rintro W' ⟨g1, g2, g3⟩
            have e0 := g1.cell 0
            have e1 := g1.cell 1
            refine bodyPost_ret (v := .agg #[.int .i64 2, .int .i64 pl]) (by simp [results, Try.results66, go_sem, e0, e1]) rfl ?_
            exact find_fedZ (by decide) (by first | (intro e; exact absurd e (by decide)) | (intro _; exact ⟨by omega, hpll⟩)) hF3.out g2 g3
        · rw [if_neg hg0] at hF3
          have d3 : (gw == 0) = false := by simp [hg0]
          have hA1 := findAt_act c key k gw hg0
          have fx4 := hF3.go2 hA1
          have hWd := tape_words hT4 gw
          rcases hx4 : T3.doAct ⟨6, gw, 0, 0, 0, ByteArray.empty⟩ with ⟨⟨zw, zt⟩, T5⟩
          rw [hx4] at hWd fx4
          simp only at hWd
          have htk1 := findAt_take c key k gw hg0 ⟨zw, zt⟩
          rw [hpl.out] at htk1
          replace hg0 := Lib.hid hg0
          replace hF3 := Lib.hid hF3
          replace hT4 := Lib.hid hT4
          replace hA1 := Lib.hid hA1
          replace fx4 := Lib.hid fx4
          replace hWd := Lib.hid hWd
          replace hx4 := Lib.hid hx4
          replace htk1 := Lib.hid htk1
          clear r0 r1 fr0 fr1
          go_wp2_with fail
          refine (hWd.out).mono ?_; rintro e w5 ⟨rfl, hT5, hC5⟩
          have t25 : w5.cell? ⟨tb, 2, none⟩ = some (.bool T5.over) := hT5.blk.cell 2
          have b05 := b04.out.keep (hC5.block _ b04.out.lt (by omega))
          have b15 := b14.out.keep (hC5.block _ b14.out.lt (by omega))
          have hK5 := hK4.out.trans hC5 fun i hi => Or.inl hi
          have r0 := b15.cell 0
          have r1 := b15.cell 1
          have fr0 := b15.frozen 0
          have fr1 := b15.frozen 1
          clear t24
          replace hC5 := Lib.hid hC5
          replace b05 := Lib.hid b05
          replace b15 := Lib.hid b15
          replace hK5 := Lib.hid hK5
          rcases fx4.out with ⟨g4, hg4, e4, hF5⟩ | ⟨e4, hE4, hS4⟩
          · injection e4 with e41 e42
            subst e41
            have hatl4 := (List.getElem?_eq_some_iff.mp hg4).1
            have hT5o : T5.over = false := by rw [e42]; exact hT3o
            rw [hT5o] at t25
            rw [← e42, htk1.out] at hF5
            have hv5 : 2 * (Q.length - T5.at_) + 1 < 2 * (Q.length - T3.at_) + 1 := by rw [e42]; show 2 * (Q.length - (T3.at_ + 1)) + 1 < _; omega
            try simp only at hF5
            replace e42 := Lib.hid e42
            replace hg4 := Lib.hid hg4
            by_cases hzk : zt = key
            · subst hzk
              simp only [if_true] at hF5
              replace hF5 := Lib.hid hF5
              replace hT5 := Lib.hid hT5
              as_aux_lemma =>
                go_wp2_with fail
                refine gen_world (α := fun W' => bodyPost _ _ _ _ _ W') (fun W' => Blk W' (w.heap.size + 1) 131 #[.int .i64 1, .int .i64 pl] ∧ TapeIn W' tb A cc T5 ∧ Chg (fun k => k = tb) w W') ⟨?_, ?_, ?_⟩ ?_
                · exact Blk.eq_cs ((b15.out.set_ 0 _).set_ 1 _) rfl
                · exact (hT5.out.set_far (by show tb < w.heap.size + 1; omega) _).set_far (by show tb < w.heap.size + 1; omega) _
                · exact (hK5.out.setCell (.inr (by show w.heap.size ≤ w.heap.size + 1; omega)) _).setCell (.inr (by show w.heap.size ≤ w.heap.size + 1; omega)) _
                rintro W' ⟨g1, g2, g3⟩
                have e0 := g1.cell 0
                have e1 := g1.cell 1
                refine bodyPost_ret (v := .agg #[.int .i64 1, .int .i64 pl]) (by simp [results, Try.results66, go_sem, e0, e1]) rfl ?_
                exact find_fedZ (by decide) (by first | (intro e; exact absurd e (by decide)) | (intro _; exact ⟨by omega, hpll⟩)) hF5.out g2 g3
            · rw [if_neg hzk] at hF5
              have d5 := txt_ne hzk
              have d5b : (zt.toList == key.toList) = false := by rw [beq_eq_false_iff_ne]; exact d5
              have hm5 := tapeM_eq hT5 Q.length
              rw [hT5o] at hm5
              replace hT5 := Lib.hid hT5
              replace hzk := Lib.hid hzk
              replace hm5 := Lib.hid hm5
              have hcs : (FedA a0 PFind.act PFind.take s0 Q T5 (findAt c key (k + 1) 0) ∧ ((k + 1 : Nat) : Int) < c.shelves) ∨ (FedA a0 PFind.act PFind.take s0 Q T5 (findEnd c key (k + 1) 0 3 0) ∧ ((k + 1 : Nat) : Int) = c.shelves) := by
                by_cases hke : (k : Int) + 1 = c.shelves
                · rw [if_pos hke] at hF5
                  exact .inr ⟨hF5, by omega⟩
                · rw [if_neg hke] at hF5
                  exact .inl ⟨hF5, by omega⟩
              replace hcs := Lib.hid hcs
              replace hF5 := Lib.hid hF5
              as_aux_lemma =>
                go_wp2_with fail
                go_roundw
                case rel => exact ⟨⟨T5, k + 1, by go_num, by omega, hT5.out, (by rcases hcs.out with h | h <;> exact h.1.got), hcs.out⟩, hK5.out, b05.out, b15.out⟩
                case measure =>
                  rw [hm2.out, hm5.out, hEo]
                  show 2 * (Q.length - T5.at_) + 1 < 2 * (Q.length - T2.at_) + 1
                  omega
          · injection e4 with e41 e42
            have hT5o : T5.over = true := by rw [e42]
            rw [hT5o] at t25
            rw [← e42] at hE4
            replace hE4 := Lib.hid hE4
            replace hS4 := Lib.hid hS4
            replace e42 := Lib.hid e42
            replace e41 := Lib.hid e41
            replace hT5 := Lib.hid hT5
            as_aux_lemma =>
              go_wp2_with fail
              refine gen_world (α := fun W' => bodyPost _ _ _ _ _ W') (fun W' => Blk W' (w.heap.size + 1) 131 #[.int .i64 0, .int .i64 0] ∧ TapeIn W' tb A cc T5 ∧ Chg (fun k => k = tb) w W') ⟨?_, ?_, ?_⟩ ?_
              · exact Blk.eq_cs ((b15.out.set_ 0 _).set_ 1 _) rfl
              · exact (hT5.out.set_far (by show tb < w.heap.size + 1; omega) _).set_far (by show tb < w.heap.size + 1; omega) _
              · exact (hK5.out.setCell (.inr (by show w.heap.size ≤ w.heap.size + 1; omega)) _).setCell (.inr (by show w.heap.size ≤ w.heap.size + 1; omega)) _
              rintro W' ⟨g1, g2, g3⟩
              have e0 := g1.cell 0
              have e1 := g1.cell 1
              refine bodyPost_ret (v := .agg #[.int .i64 0, .int .i64 0]) (by simp [results, Try.results66, go_sem, e0, e1]) rfl ?_
              exact find_endedZ hE4.out g2 g3
      · injection e with e1 e2
        injection e1 with e1 e3
        subst e1
        have hT3o : T3.over = true := by rw [e2]
        rw [hT3o] at t24
        rw [← e2] at hE
        replace hE := Lib.hid hE
        replace hS := Lib.hid hS
        replace e2 := Lib.hid e2
        replace e3 := Lib.hid e3
        replace hT4 := Lib.hid hT4
        as_aux_lemma =>
          go_wp2_with fail
          refine gen_world (α := fun W' => bodyPost _ _ _ _ _ W') (fun W' => Blk W' (w.heap.size + 1) 131 #[.int .i64 0, .int .i64 0] ∧ TapeIn W' tb A cc T3 ∧ Chg (fun k => k = tb) w W') ⟨?_, ?_, ?_⟩ ?_
          · exact Blk.eq_cs ((b14.out.set_ 0 _).set_ 1 _) rfl
          · exact (hT4.out.set_far (by show tb < w.heap.size + 1; omega) _).set_far (by show tb < w.heap.size + 1; omega) _
          · exact (hK4.out.setCell (.inr (by show w.heap.size ≤ w.heap.size + 1; omega)) _).setCell (.inr (by show w.heap.size ≤ w.heap.size + 1; omega)) _
          rintro W' ⟨g1, g2, g3⟩
          have e0 := g1.cell 0
          have e1 := g1.cell 1
          refine bodyPost_ret (v := .agg #[.int .i64 0, .int .i64 0]) (by simp [results, Try.results66, go_sem, e0, e1]) rfl ?_
          exact find_endedZ hE.out g2 g3
    · have d2 : decide ((k : Int) < c.shelves) = false := by simp; omega
      replace hT2 := Lib.hid hT2
      replace hF := Lib.hid hF
      replace hke := Lib.hid hke
      as_aux_lemma =>
        go_wp2_with fail
        refine gen_world (α := fun W' => bodyPost _ _ _ _ _ W') (fun W' => Blk W' (w.heap.size + 1) 131 #[.int .i64 3, .int .i64 0] ∧ TapeIn W' tb A cc T2 ∧ Chg (fun k => k = tb) w W') ⟨?_, ?_, ?_⟩ ?_
        · exact Blk.eq_cs ((b12.out.set_ 0 _).set_ 1 _) rfl
        · exact (hT2.out.set_far (by show tb < w.heap.size + 1; omega) _).set_far (by show tb < w.heap.size + 1; omega) _
        · exact (hK2.out.setCell (.inr (by show w.heap.size ≤ w.heap.size + 1; omega)) _).setCell (.inr (by show w.heap.size ≤ w.heap.size + 1; omega)) _
        rintro W' ⟨g1, g2, g3⟩
        have e0 := g1.cell 0
        have e1 := g1.cell 1
        refine bodyPost_ret (v := .agg #[.int .i64 3, .int .i64 0]) (by simp [results, Try.results66, go_sem, e0, e1]) rfl ?_
        exact find_fedZ (by decide) (by first | (intro e; exact absurd e (by decide)) | (intro _; exact ⟨by omega, hpll⟩)) hF.out g2 g3
end Go.Proofs.Ytfelkkbgbgnpaaa
