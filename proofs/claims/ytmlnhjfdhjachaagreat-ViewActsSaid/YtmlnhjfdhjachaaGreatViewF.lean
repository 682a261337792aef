/-
  The document's view on a tape (layer 27): the walk. No condition.
-/
import Derived.Test.YtmlnhjfdhjachaaGreatViewL
import Derived.Test.YtmlnhjfdhjachaaGreatReadF
namespace Go.Proofs.YtmlnhjfdhjachaaGreat
set_option linter.unusedVariables false
open Go.ChangeShapes Go.WideShapes Go.ChangeAt Go.RowKit
open Go.ChangeMaps (setBlock)

/-- What the document's view leaves. -/
def ViewPost (c : PCfg) (th : Int) (Q : List PGot) (w : World) (tb : Nat) (A : Option Addr) (cc : Nat) (e : Ending) (w' : World) : Prop :=
  ∃ T' code mark A' cp l, e = .returned (.agg #[.int .i64 code, .int .i64 0, .int .i64 0, .bool false, .string ⟨#[]⟩, .slice A' l.length cp, .int .i64 0, .slice none 0 0, .int .i64 mark, .int .u64 0]) ∧ TapeIn w' tb A cc T' ∧ Chg (fun k => k = tb) w w' ∧ ViewEnd c th Q T' code l mark ∧ l.length ≤ 64 ∧ w'.ownsRow w.heap.size 90 2 (.slice A' l.length cp) l.length (pairL l)
/-- Between two shelves. -/
structure VRel (w : World) (tb : Nat) (A : Option Addr) (cc : Nat) (c : PCfg) (th : Int) (Q : List PGot) (p ep : Int) (mk pb : Nat) (mv sv : Value) (wr : World) : Prop where
  ex : ∃ (k : Nat) (T : PTape) (l : List (ByteArray × ByteArray)) (g : Nat) (o : Obj), (k : Int) ≤ c.shelves ∧ sv = .int .i64 k ∧ PRow mv g o l ∧ wr.heap[g]? = some o ∧ w.heap.size ≤ g ∧ TapeIn wr tb A cc T ∧ VMid c th Q T p ep mk k l ∧ l.length ≤ k ∧ (T.over = true ∨ (0 ≤ ep ∧ ep ≤ 18446744073709551615))
  chg : Chg (fun k => k = tb) w wr
  b0 : Blk wr w.heap.size 24 #[.int .i64 c.cap, .int .i64 c.pins, .int .i64 c.shelves, .int .i64 c.queue, .int .i64 c.watchers, .int .u64 c.seed]
  b1 : Blk wr (w.heap.size + 1) 42 #[.int .i64 0, .int .i64 0, .int .i64 0, .bool false, .string ⟨#[]⟩, .slice none 0 0, .int .i64 0, .slice none 0 0, .int .i64 0, .int .u64 0]
  b2 : Blk wr pb 100 #[.int .i64 p, .int .u64 ep, .bool false]
theorem tape_at {T : PTape} {c : PCfg} {th : Int} {Q : List PGot} {p ep : Int} {tk : Bool} (h : VMid1 c th Q T p ep tk) (hq : Q.length ≤ 1000) (htk : tk = false) : T.at_ ≤ 1000000 := by
  rcases h.2 with hE | ⟨e, _⟩ | ⟨_, _, s, _, _, hF⟩
  · have := hE.at_; omega
  · rw [htk] at e; cases e
  · have := hF.at_; omega
set_option maxRecDepth 100000 in
set_option maxHeartbeats 4000000 in
theorem refView_any {w : World} {tb cc : Nat} {A : Option Addr} {T : PTape} (h : TapeIn w tb A cc T) (h0 : T.over = false) (h1 : T.at_ = 0) (h2 : T.act = noAct) (c : PCfg) (hc : c.Right) (th : Int) (hth : 0 ≤ th ∧ th ≤ 9223372036854775807) (hok : ∀ g ∈ T.got, g.Ok) (hlen : T.got.length ≤ 1000) :
    Calls Tryz.prog 12 #[.pointer (some ⟨tb, 0, none⟩), c.val, .int .i64 th] w (ViewPost c th T.got w tb A cc) := by
  have hlt := h.blk.lt
  have hshl := hc.shelves
  have hz : Below w.heap.size w ((w.alloc (.cells #[.int .i64 c.cap, .int .i64 c.pins, .int .i64 c.shelves, .int .i64 c.queue, .int .i64 c.watchers, .int .u64 c.seed] 24)).alloc (.cells #[.int .i64 0, .int .i64 0, .int .i64 0, .bool false, .string ⟨#[]⟩, .slice none 0 0, .int .i64 0, .slice none 0 0, .int .i64 0, .int .u64 0] 42)) := ((Below.refl _ _).alloc (Nat.le_refl _) _).alloc (by simp) _
  have hPn := refPin_gen (h.below hz) h0 h1 h2 c hc th hth hok
  have B0 := (Blk.new w 24 #[.int .i64 c.cap, .int .i64 c.pins, .int .i64 c.shelves, .int .i64 c.queue, .int .i64 c.watchers, .int .u64 c.seed]).alloc (.cells #[.int .i64 0, .int .i64 0, .int .i64 0, .bool false, .string ⟨#[]⟩, .slice none 0 0, .int .i64 0, .slice none 0 0, .int .i64 0, .int .u64 0] 42)
  have B1 := Blk.new (w.alloc (.cells #[.int .i64 c.cap, .int .i64 c.pins, .int .i64 c.shelves, .int .i64 c.queue, .int .i64 c.watchers, .int .u64 c.seed] 24)) 42 #[.int .i64 0, .int .i64 0, .int .i64 0, .bool false, .string ⟨#[]⟩, .slice none 0 0, .int .i64 0, .slice none 0 0, .int .i64 0, .int .u64 0]
  simp only [World.size_alloc] at B1
  have hmid := fun (T1 : PTape) (p ep : Int) (tk : Bool) h4 => view_mid1 (p := p) (ep := ep) (tk := tk) (T1 := T1) hc hth.1 hok h0 h1 h2 rfl h4
  have hFr := fun (W : World) (T' : PTape) (hT : TapeIn W tb A cc T') (p : Int) (hp : 0 ≤ p ∧ p < c.pins) => refFree_any hT c hc p hp
  have hAt := fun (k : Nat) (hk : (k : Int) < c.shelves) W => refKeyAt c hc k hk W
  have hCg := fun (W : World) (T' : PTape) (hT : TapeIn W tb A cc T') (sh ep : Int) (hsh : 0 ≤ sh ∧ sh < c.shelves) (hep : 0 ≤ ep ∧ ep ≤ 18446744073709551615) (a0 : Nat) hst => refChain_gen hT (a0 := a0) (Q := T.got) c hc sh ep hsh hep (Ends.ended _ _ _) (.inr hst) hok
  have hCo := fun (W : World) (T' : PTape) (hT : TapeIn W tb A cc T') (sh ep : Int) (hsh : 0 ≤ sh ∧ sh < c.shelves) (hep : 0 ≤ ep ∧ ep ≤ 18446744073709551615) (ho : T'.over = true) (hq : T'.got = T.got) => refChain_gen hT (Q := T.got) c hc sh ep hsh hep (Ends.same _ ho hq) (.inl rfl) hok
  generalize hQ : T.got = Q at *
  rw [show c.val = .agg #[.int .i64 c.cap, .int .i64 c.pins, .int .i64 c.shelves, .int .i64 c.queue, .int .i64 c.watchers, .int .u64 c.seed] from rfl] at *
  clear h0 h1 h2
  replace h := Lib.hid h
  replace hz := Lib.hid hz
  replace hPn := Lib.hid hPn
  replace B0 := Lib.hid B0
  replace B1 := Lib.hid B1
  replace hmid := Lib.hid hmid
  replace hFr := Lib.hid hFr
  replace hAt := Lib.hid hAt
  replace hCg := Lib.hid hCg
  replace hCo := Lib.hid hCo
  replace hQ := Lib.hid hQ
  replace hshl := Lib.hid hshl
  go_enter Tryz.func12, Tryz.ntmps12
  go_wp2_with fail
  refine (hPn.out).mono ?_; rintro e w1 ⟨T1, p, ep, tk, rfl, hT1, hC1, hz1⟩
  have hM1 := hmid.out T1 p ep tk hz1
  have hsz := hC1.size
  simp only [World.size_alloc] at hsz
  have b0 := (B0.out.keep (hC1.block w.heap.size (by simp; omega) (by omega))).alloc (.cells #[.int .i64 p, .int .u64 ep, .bool tk] 100)
  have b1 := (B1.out.keep (hC1.block (w.heap.size + 1) (by simp) (by omega))).alloc (.cells #[.int .i64 p, .int .u64 ep, .bool tk] 100)
  have b9 := Blk.new w1 100 #[.int .i64 p, .int .u64 ep, .bool tk]
  have hK1 : Chg (fun k => k = tb) w (w1.alloc (.cells #[.int .i64 p, .int .u64 ep, .bool tk] 100)) := ((Chg.of_below hz.out (fun k => k = tb)).trans hC1 fun i hi => Or.inl hi).alloc _
  have hT1' := hT1.below (Below.more_ (Below.refl _ _) (.cells #[.int .i64 p, .int .u64 ep, .bool tk] 100))
  clear hT1 hC1 hz1 hPn
  have hbl0 := b0.lt
  have hbl1 := b1.lt
  have hbl9 := b9.lt
  cases tk with
  | true =>
    have hE : ViewEnd c th Q T1 11 [] 0 := by
      rcases hM1.2 with hE | ⟨_, s, hF, h5, hs1, hs2⟩ | ⟨e, _⟩
      · exact view_ended hE _ _ _
      · have := view_fed hF h5
        rw [show s.out = [] from by unfold PView.out; rw [hs1]; rfl, hs1, hs2] at this
        exact this
      · cases e
    have z2 := b9.cell 2
    have r0 := b1.cell 0
    have r1 := b1.cell 1
    have r2 := b1.cell 2
    have r3 := b1.cell 3
    have r4 := b1.cell 4
    have r5 := b1.cell 5
    have r6 := b1.cell 6
    have r7 := b1.cell 7
    have r8 := b1.cell 8
    have r9 := b1.cell 9
    have fr0 := b1.frozen 0
    have fr1 := b1.frozen 1
    have fr2 := b1.frozen 2
    have fr3 := b1.frozen 3
    have fr4 := b1.frozen 4
    have fr5 := b1.frozen 5
    have fr6 := b1.frozen 6
    have fr7 := b1.frozen 7
    have fr8 := b1.frozen 8
    have fr9 := b1.frozen 9
    replace b0 := Lib.hid b0
    replace b1 := Lib.hid b1
    replace b9 := Lib.hid b9
    replace hK1 := Lib.hid hK1
    replace hT1' := Lib.hid hT1'
    replace hM1 := Lib.hid hM1
    replace hE := Lib.hid hE
    clear hmid hFr hAt hCg hCo hM1 hbl0 hbl1 hbl9
    go_wp2_with fail
    refine gen_world (α := fun W' => bodyPost _ _ _ _ _ W') (fun W' => Blk W' (w.heap.size + 1) 42 #[.int .i64 11, .int .i64 0, .int .i64 0, .bool false, .string ⟨#[]⟩, .slice none 0 0, .int .i64 0, .slice none 0 0, .int .i64 0, .int .u64 0] ∧ TapeIn W' tb A cc T1 ∧ Chg (fun k => k = tb) w W') ⟨Blk.eq_cs ((((((((((b1.out.set_ 0 _).set_ 1 _).set_ 2 _).set_ 3 _).set_ 4 _).set_ 5 _).set_ 6 _).set_ 7 _).set_ 8 _).set_ 9 _) (by kernel_rfl), ((((((((((hT1'.out.set_far (by show tb < w.heap.size + 1; omega) _).set_far (by show tb < w.heap.size + 1; omega) _).set_far (by show tb < w.heap.size + 1; omega) _).set_far (by show tb < w.heap.size + 1; omega) _).set_far (by show tb < w.heap.size + 1; omega) _).set_far (by show tb < w.heap.size + 1; omega) _).set_far (by show tb < w.heap.size + 1; omega) _).set_far (by show tb < w.heap.size + 1; omega) _).set_far (by show tb < w.heap.size + 1; omega) _).set_far (by show tb < w.heap.size + 1; omega) _), ?_⟩ ?_
    · refine Chg.setCell (Chg.setCell (Chg.setCell (Chg.setCell (Chg.setCell (Chg.setCell (Chg.setCell (Chg.setCell (Chg.setCell (Chg.setCell (hK1.out) ?_ _) ?_ _) ?_ _) ?_ _) ?_ _) ?_ _) ?_ _) ?_ _) ?_ _) ?_ _ <;> exact .inr (by show w.heap.size ≤ w.heap.size + 1; omega)
    rintro W' ⟨g1, g2, g3⟩
    have e0 := g1.cell 0
    have e1 := g1.cell 1
    have e2 := g1.cell 2
    have e3 := g1.cell 3
    have e4 := g1.cell 4
    have e5 := g1.cell 5
    have e6 := g1.cell 6
    have e7 := g1.cell 7
    have e8 := g1.cell 8
    have e9 := g1.cell 9
    refine bodyPost_ret (v := .agg #[.int .i64 11, .int .i64 0, .int .i64 0, .bool false, .string ⟨#[]⟩, .slice none 0 0, .int .i64 0, .slice none 0 0, .int .i64 0, .int .u64 0]) (by simp [results, Tryz.results12, go_sem, e0, e1, e2, e3, e4, e5, e6, e7, e8, e9]) rfl ?_
    exact ⟨T1, _, _, none, 0, [], rfl, g2, g3, hE.out, Nat.zero_le _, World.ownsRow_nil _ _ _ _⟩
  | false =>
    have hpr := hM1.1 rfl
    have t2a : (w1.alloc (.cells #[.int .i64 p, .int .u64 ep, .bool false] 100)).cell? ⟨tb, 1, none⟩ = some (.int .i64 (T1.at_ : Nat)) := hT1'.blk.cell 1
    have htl1 := hT1'.blk.lt
    simp only [World.size_alloc] at hbl0 hbl1 hbl9 htl1
    have hsw := b0.lt
    have z2 := b9.cell 2
    have hat1 := tape_at hM1 hlen rfl
    have hgo : T1.over = true ∨ (0 ≤ ep ∧ ep ≤ 18446744073709551615) := by
      rcases hM1.2 with hE | ⟨e, _⟩ | ⟨_, hep, _⟩
      · exact .inl hE.over
      · cases e
      · exact .inr hep
    have hM0 : VMid c th Q T1 p ep T1.at_ ((0 : Nat) : Int) [] := by
      rcases hM1.2 with hE | ⟨e, _⟩ | ⟨_, hep, s, h3, h4, hF⟩
      · exact .inl hE
      · cases e
      · exact .inr ⟨s, 0, ByteArray.empty, newChain 0 0, [], h3, h4, List.nodup_nil, rfl, hF⟩
    have mkw : ((T1.at_ : Nat) : Int) = (T1.at_ : Int) := rfl
    clear hmid hM1
    replace b0 := Lib.hid b0
    replace b1 := Lib.hid b1
    replace b9 := Lib.hid b9
    replace hK1 := Lib.hid hK1
    replace hT1' := Lib.hid hT1'
    replace hM0 := Lib.hid hM0
    replace hgo := Lib.hid hgo
    replace mkw := Lib.hid mkw
    go_wp2_with fail
    go_loopw [9, 10] (fun mv sv wr => VRel w tb A cc c th Q p ep T1.at_ w1.heap.size mv sv wr) (fun _ i _ => 100 - (intOf i).toNat)
    case atStart =>
      have hbn := Blk.new (w1.alloc (.cells #[.int .i64 p, .int .u64 ep, .bool false] 100)) 90 #[]
      rw [World.size_alloc] at hbn
      refine ⟨⟨0, T1, [], _, _, by have := hshl.out; omega, rfl, PRow.nil _, hbn, by omega, hT1'.out.below (Below.more_ (Below.refl _ _) _), hM0.out, Nat.le_refl _, hgo.out⟩, hK1.out.alloc _, b0.out.alloc _, b1.out.alloc _, b9.out.alloc _⟩
    case round =>
      obtain ⟨⟨k, T2, l, g, o, hk, rfl, hrow, hg, hgw, hT2, hM2, hll, hep2⟩, hK2, x0, x1, x2⟩ := hrel
      have hgl : g < wr.heap.size := (Array.getElem?_eq_some_iff.1 hg).1
      obtain ⟨gc, rfl⟩ := hrow.slice
      have hg1 : g ≠ w.heap.size + 1 := fun e => by
        obtain ⟨_, cur, _, ho, _⟩ := hrow.ex
        have h3 : wr.heap[w.heap.size + 1]? = some (.cells _ _) := x1
        rw [e, h3, ho] at hg
        injection hg with hg
        injection hg with _ hg
        cases hg
      have hst : ∀ W, Chg (fun k => k = tb) wr W → (W.heap[g]? = some o ∧ Chg (fun k => k = tb) w W ∧ Blk W w.heap.size 24 #[.int .i64 c.cap, .int .i64 c.pins, .int .i64 c.shelves, .int .i64 c.queue, .int .i64 c.watchers, .int .u64 c.seed] ∧ Blk W (w.heap.size + 1) 42 #[.int .i64 0, .int .i64 0, .int .i64 0, .bool false, .string ⟨#[]⟩, .slice none 0 0, .int .i64 0, .slice none 0 0, .int .i64 0, .int .u64 0] ∧ Blk W w1.heap.size 100 #[.int .i64 p, .int .u64 ep, .bool false]) := fun W hC =>
        ⟨(hC.block g hgl (by omega)).trans hg, hK2.trans hC fun i hi => Or.inl hi, x0.keep (hC.block _ x0.lt (by omega)), x1.keep (hC.block _ x1.lt (by omega)), x2.keep (hC.block _ x2.lt (by omega))⟩
      have c0 := x0.cell 0
      have c1 := x0.cell 1
      have c2 := x0.cell 2
      have c3 := x0.cell 3
      have c4 := x0.cell 4
      have c5 := x0.cell 5
      have t2o : wr.cell? ⟨tb, 2, none⟩ = some (.bool T2.over) := hT2.blk.cell 2
      have htl := hT2.blk.lt
      have hl0 := x0.lt
      have hl2 := x2.lt
      have hk63 : (k : Int) + 1 ≤ 9223372036854775807 := by have := hshl.out; omega
      by_cases hcs : (k : Int) < c.shelves ∧ T2.over = false
      · obtain ⟨hks, hov⟩ := hcs
        have d1 : decide ((k : Int) < c.shelves) = true := by simpa using hks
        rw [hov] at t2o
        have hepr : 0 ≤ ep ∧ ep ≤ 18446744073709551615 := by
          rcases hep2 with h | h
          · rw [hov] at h; cases h
          · exact h
        obtain ⟨lg, T3, hdo, hlok, hnext⟩ := vmid_load hM2 hov (by omega) hok
        have hAk := hAt.out k hks
        have hLd := fun W hb => tape_load (hT2.below (w' := W) hb) 1 (3 + c.pins + c.cap + 2 * (k : Int))
        rw [hdo] at hLd
        obtain ⟨cx, hcx⟩ : ∃ cx : Int, 3 + c.pins + c.cap + 2 * (k : Int) = cx := ⟨_, rfl⟩
        rw [hcx] at hAk hLd
        simp only at hLd
        clear hcx hdo
        replace hAk := Lib.hid hAk
        replace hLd := Lib.hid hLd
        replace hst := Lib.hid hst
        replace hrow := Lib.hid hrow
        replace hg := Lib.hid hg
        replace hT2 := Lib.hid hT2
        replace hM2 := Lib.hid hM2
        replace hK2 := Lib.hid hK2
        replace x0 := Lib.hid x0
        replace x1 := Lib.hid x1
        replace x2 := Lib.hid x2
        replace hnext := Lib.hid hnext
        replace hov := Lib.hid hov
        replace hg1 := Lib.hid hg1
        go_wp2_with fail
        refine (hAk.out _).mono ?_; rintro e w3 ⟨rfl, hb3⟩
        have hLd3 := hLd.out _ hb3
        clear hLd
        replace hLd3 := Lib.hid hLd3
        go_wp2_with fail
        refine (hLd3.out).mono ?_; rintro e w4 ⟨rfl, hT4, hC4⟩
        have hC4' : Chg (fun k => k = tb) wr w4 := (Chg.of_below hb3 _).trans hC4 fun i hi => Or.inl hi
        have hs4 := hst.out _ hC4'
        obtain ⟨lw, lt⟩ := lg
        try simp only at hlok
        have hnx := hnext.out
        try simp only at hnx
        clear hb3 hC4 hLd3 c0 c1 c2 c3 c4 c5 t2o
        replace hT4 := Lib.hid hT4
        replace hC4' := Lib.hid hC4'
        replace hs4 := Lib.hid hs4
        replace hnx := Lib.hid hnx
        by_cases h0 : lw = 0
        · subst h0
          go_wp2_with fail
          go_roundw
          case rel =>
            obtain ⟨s1, s2, s3, s4, s5⟩ := hs4.out
            have hM5 : VMid c th Q T3 p ep T1.at_ ((k : Int) + 1) l := by
              rcases hnx.out with ⟨_, h⟩ | ⟨h, _⟩
              · exact h
              · exact absurd rfl h
            first | exact ⟨⟨k + 1, T3, l, g, o, by omega, by go_num, hrow.out, s1, hgw, hT4.out, by rw [show ((k + 1 : Nat) : Int) = (k : Int) + 1 by omega]; exact hM5, by omega, .inr hepr⟩, s2, s3, s4, s5⟩ | ((repeat apply Exists.intro); refine ⟨?rr, ?ff⟩; (case ff => first | exact rfl | (apply act_eq; apply slots_eq; repeat' (first | apply cons_eq | exact rfl | (apply congrArg Value.bool; first | (simp; done) | (simp; omega)) | (simp [*]; done)))); (case rr => exact ⟨⟨k + 1, T3, l, g, o, by omega, by go_num, hrow.out, s1, hgw, hT4.out, by rw [show ((k + 1 : Nat) : Int) = (k : Int) + 1 by omega]; exact hM5, by omega, .inr hepr⟩, s2, s3, s4, s5⟩))
          case measure => simp [intOf]; have := hshl.out; omega
        · have hz0 : (lw == 0) = false := by simpa using h0
          obtain ⟨_, hov3, hM3⟩ : lw ≠ 0 ∧ T3.over = false ∧ VMid3 c th Q T3 p ep T1.at_ k lw l := by
            rcases hnx.out with ⟨h, _⟩ | h
            · exact absurd h h0
            · exact h
          obtain ⟨wg, T5, hdo5, hcase⟩ := vmid_words hM3
          have hWd := tape_words hT4.out lw
          rw [hdo5] at hWd
          simp only at hWd
          clear hnx hnext hM3 hdo5
          replace hWd := Lib.hid hWd
          replace hcase := Lib.hid hcase
          replace hov3 := Lib.hid hov3
          go_wp2_with fail
          refine (hWd.out).mono ?_; rintro e w5 ⟨rfl, hT5, hC5⟩
          have hC5' : Chg (fun k => k = tb) wr w5 := hC4'.out.trans hC5 fun i hi => Or.inl hi
          have hs5 := hst.out _ hC5'
          obtain ⟨-, -, y0, y1, y2⟩ := hs5
          have c0 := y0.cell 0
          have c1 := y0.cell 1
          have c2 := y0.cell 2
          have c3 := y0.cell 3
          have c4 := y0.cell 4
          have c5 := y0.cell 5
          have q1 := y2.cell 1
          have hly := y0.lt
          have hly2 := y2.lt
          have hCw : Calls Tryz.prog 46 #[.pointer (some ⟨tb, 0, none⟩), .agg #[.int .i64 c.cap, .int .i64 c.pins, .int .i64 c.shelves, .int .i64 c.queue, .int .i64 c.watchers, .int .u64 c.seed], .int .i64 k, .int .u64 ep] w5 fun e w' => ∃ T6 hs tx bk n, e = .returned (.tuple #[.agg #[.bool hs, .string tx, .int .u64 bk], .int .i64 n]) ∧ TapeIn w' tb A cc T6 ∧ Chg (fun k => k = tb) w5 w' ∧ ((T6.over = true ∧ EndedA 0 PView.act PView.take (newView c th) Q T6) ∨ (T6.over = false ∧ VMid c th Q T6 p ep T1.at_ ((k : Int) + 1) (if hs then putP (geP wg.text) wg.text tx l false else l))) := by
            rcases hcase.out with ⟨ho, hE⟩ | ⟨ho, hM5⟩
            · refine (hCo.out w5 T5 hT5 k ep ⟨by omega, hks⟩ hepr ho hE.got).mono ?_
              rintro e w' ⟨T6, hs, tx, bk, n, he, h3, h4, h5⟩
              have h6 : T6 = T5 := by
                rcases h5 with h5 | ⟨s, h5, _⟩
                · exact h5
                · exact h5.not_far.elim
              subst h6
              exact ⟨T6, hs, tx, bk, n, he, h3, h4, .inl ⟨ho, hE⟩⟩
            · obtain ⟨s, blk, seen, e1, e2, e3, e4, hF⟩ := id hM5
              refine (hCg.out w5 T5 hT5 k ep ⟨by omega, hks⟩ hepr T5.at_ (FedA.start _ _ _ hF.over hF.at_ hF.idle hF.got)).mono ?_
              rintro e w' ⟨T6, hs, tx, bk, n, he, h3, h4, h5⟩
              exact ⟨T6, hs, tx, bk, n, he, h3, h4, vmid_chain hM5 h5⟩
          clear hcase hWd hC5
          replace hCw := Lib.hid hCw
          replace hT5 := Lib.hid hT5
          replace hC5' := Lib.hid hC5'
          replace y0 := Lib.hid y0
          replace y1 := Lib.hid y1
          replace y2 := Lib.hid y2
          go_wp2_with fail
          refine (hCw.out).mono ?_; rintro e w6 ⟨T6, hs, tx, bk, nn, rfl, hT6, hC6, hfin⟩
          have hC7 : Chg (fun k => k = tb) wr (w6.alloc (.cells #[.bool hs, .string tx, .int .u64 bk] 106)) := (hC5'.out.trans hC6 fun i hi => Or.inl hi).alloc _
          have hT7 := hT6.below (Below.more_ (Below.refl _ _) (.cells #[.bool hs, .string tx, .int .u64 bk] 106))
          have hs7 := hst.out _ hC7
          have bV := Blk.new w6 106 #[.bool hs, .string tx, .int .u64 bk]
          have v0 := bV.cell 0
          have v1 := bV.cell 1
          have hlV := bV.lt
          have hl7 := hT7.blk.lt
          have t7o : (w6.alloc (.cells #[.bool hs, .string tx, .int .u64 bk] 106)).cell? ⟨tb, 2, none⟩ = some (.bool T6.over) := hT7.blk.cell 2
          clear hC6 hT6 c0 c1 c2 c3 c4 c5 q1 bV
          replace hT7 := Lib.hid hT7
          replace hs7 := Lib.hid hs7
          replace hC7 := Lib.hid hC7
          have hrest : ∀ W, Chg (fun k => k = tb) wr W → TapeIn W tb A cc T6 → (hs = false ∨ T6.over = true) → VRel w tb A cc c th Q p ep T1.at_ w1.heap.size (.slice (some ⟨g, 0, none⟩) l.length gc) (.int .i64 ((k + 1 : Nat) : Int)) W := fun W hC hT hh => by
            obtain ⟨s1, s2, s3, s4, s5⟩ := hst.out _ hC
            refine ⟨⟨k + 1, T6, l, g, o, by omega, rfl, hrow.out, s1, hgw, hT, ?_, by omega, .inr hepr⟩, s2, s3, s4, s5⟩
            rcases hfin with ⟨_, hE⟩ | ⟨ho, hM⟩
            · exact .inl hE
            · rcases hh with hh | hh
              · rw [hh, if_neg (by decide)] at hM
                rw [show ((k + 1 : Nat) : Int) = (k : Int) + 1 by omega]
                exact hM
              · rw [ho] at hh; cases hh
          have hek : ((k + 1 : Nat) : Int) = (k : Int) + 1 := by omega
          replace hrest := Lib.hid hrest
          replace hfin := Lib.hid hfin
          replace hek := Lib.hid hek
          cases hs with
          | false =>
            go_wp2_with fail
            go_roundw
            case rel =>
              have h9 := hrest.out _ hC7.out hT7.out (.inl (by first | rfl | trivial))
              rw [hek.out] at h9
              first | exact h9 | ((repeat apply Exists.intro); refine ⟨?rr, ?ff⟩; (case ff => first | exact rfl | (apply act_eq; apply slots_eq; repeat' (first | apply cons_eq | exact rfl | (apply congrArg Value.bool; first | (simp; done) | (simp; omega)) | (simp [*]; done)))); (case rr => exact h9))
            case measure => simp [intOf]; have := hshl.out; omega
          | true =>
            cases ho6 : T6.over with
            | true =>
              rw [ho6] at t7o
              replace ho6 := Lib.hid ho6
              go_wp2_with fail
              go_roundw
              case rel =>
                have h9 := hrest.out _ hC7.out hT7.out (.inr (by first | exact ho6.out | trivial))
                rw [hek.out] at h9
                first | exact h9 | ((repeat apply Exists.intro); refine ⟨?rr, ?ff⟩; (case ff => first | exact rfl | (apply act_eq; apply slots_eq; repeat' (first | apply cons_eq | exact rfl | (apply congrArg Value.bool; first | (simp; done) | (simp; omega)) | (simp [*]; done)))); (case rr => exact h9))
              case measure => simp [intOf]; have := hshl.out; omega
            | false =>
              rw [ho6] at t7o
              have hMn : VMid c th Q T6 p ep T1.at_ ((k : Int) + 1) (putP (geP wg.text) wg.text tx l false) := by
                rcases hfin.out with ⟨h, _⟩ | ⟨_, h⟩
                · rw [ho6] at h; cases h
                · exact h
              have hrd := hrow.out.reads hs7.out.1
              have hPt := put_any (cap := gc) wg.text tx hrd.1 (by have := hshl.out; omega) hrd.2
              replace ho6 := Lib.hid ho6
              replace hMn := Lib.hid hMn
              replace hrd := Lib.hid hrd
              replace hPt := Lib.hid hPt
              go_wp2_with fail
              refine (hPt.out).mono ?_; rintro e w8 ⟨v8, g8, o8, rfl, hr8, hg8, hgz, hb8⟩
              have hC8 : Chg (fun k => k = tb) wr w8 := hC7.out.next_ hb8
              have hT8 := hT7.out.below hb8
              have hs8 := hst.out _ hC8
              have hsz8 := hC7.out.size
              have hll8 := putP_len (geP wg.text) wg.text tx l false
              replace hr8 := Lib.hid hr8
              replace hg8 := Lib.hid hg8
              replace hC8 := Lib.hid hC8
              replace hT8 := Lib.hid hT8
              replace hs8 := Lib.hid hs8
              clear hb8
              go_wp2_with fail
              go_roundw
              case rel =>
                obtain ⟨s1, s2, s3, s4, s5⟩ := hs8.out
                have hsw2 := hK2.out.size
                first | exact ⟨⟨k + 1, T6, _, g8, o8, by omega, by go_num, hr8.out, hg8.out, by omega, hT8.out, by rw [hek.out]; exact hMn.out, by simp at hll8; omega, .inr hepr⟩, s2, s3, s4, s5⟩ | ((repeat apply Exists.intro); refine ⟨?rr, ?ff⟩; (case ff => first | exact rfl | (apply act_eq; apply slots_eq; repeat' (first | apply cons_eq | exact rfl | (apply congrArg Value.bool; first | (simp; done) | (simp; omega)) | (simp [*]; done)))); (case rr => exact ⟨⟨k + 1, T6, _, g8, o8, by omega, by go_num, hr8.out, hg8.out, by omega, hT8.out, by rw [hek.out]; exact hMn.out, by simp at hll8; omega, .inr hepr⟩, s2, s3, s4, s5⟩))
              case measure => simp [intOf]; have := hshl.out; omega
      · have hend := view_free hat1 (sh := (k : Int)) (by
          by_cases h : (k : Int) = c.shelves
          · exact .inl h
          · right
            cases ho : T2.over with
            | true => rfl
            | false => exact absurd ⟨by omega, ho⟩ hcs) hM2
        have hFw := hFr.out wr T2 hT2 p hpr
        have q0 := x2.cell 0
        have hc2 : ((k : Int) < c.shelves ∧ T2.over = true) ∨ ¬ (k : Int) < c.shelves := by
          by_cases h : (k : Int) < c.shelves
          · left
            refine ⟨h, ?_⟩
            cases ho : T2.over with
            | true => rfl
            | false => exact absurd ⟨h, ho⟩ hcs
          · exact .inr h
        generalize T2.doAct ⟨2, 1, 3 + p, 0, 0, ByteArray.empty⟩ = DD at *
        have hl64 : l.length ≤ 64 := by have := hshl.out; omega
        replace hst := Lib.hid hst
        replace hrow := Lib.hid hrow
        replace hg := Lib.hid hg
        replace hT2 := Lib.hid hT2
        replace hM2 := Lib.hid hM2
        replace hK2 := Lib.hid hK2
        replace x0 := Lib.hid x0
        replace x1 := Lib.hid x1
        replace x2 := Lib.hid x2
        replace hg1 := Lib.hid hg1
        replace hend := Lib.hid hend
        replace hFw := Lib.hid hFw
        clear hcs
        rcases hc2 with ⟨hks, ho⟩ | hks
        · have d1 : decide ((k : Int) < c.shelves) = true := by simpa using hks
          rw [ho] at t2o
          replace ho := Lib.hid ho
          go_wp2_with fail
          refine (hFw.out).mono ?_; rintro e w6 ⟨rfl, hT6, hC6⟩
          obtain ⟨s1, s2, s3, s4, s5⟩ := hst.out _ hC6
          have r0 := s4.cell 0
          have r1 := s4.cell 1
          have r2 := s4.cell 2
          have r3 := s4.cell 3
          have r4 := s4.cell 4
          have r5 := s4.cell 5
          have r6 := s4.cell 6
          have r7 := s4.cell 7
          have r8 := s4.cell 8
          have r9 := s4.cell 9
          have fr0 := s4.frozen 0
          have fr1 := s4.frozen 1
          have fr2 := s4.frozen 2
          have fr3 := s4.frozen 3
          have fr4 := s4.frozen 4
          have fr5 := s4.frozen 5
          have fr6 := s4.frozen 6
          have fr7 := s4.frozen 7
          have fr8 := s4.frozen 8
          have fr9 := s4.frozen 9
          have hl4 := s4.lt
          replace s1 := Lib.hid s1
          replace s2 := Lib.hid s2
          replace s3 := Lib.hid s3
          replace s4 := Lib.hid s4
          replace s5 := Lib.hid s5
          replace hT6 := Lib.hid hT6
          replace hC6 := Lib.hid hC6
          clear c0 c1 c2 c3 c4 c5 t2o q0
          go_wp2_with fail
          refine gen_world (α := fun W' => bodyPost _ _ _ _ _ W') (fun W' => Blk W' (w.heap.size + 1) 42 #[.int .i64 0, .int .i64 0, .int .i64 0, .bool false, .string ⟨#[]⟩, .slice (some ⟨g, 0, none⟩) l.length gc, .int .i64 0, .slice none 0 0, .int .i64 (T1.at_ : Nat), .int .u64 0] ∧ TapeIn W' tb A cc DD.2 ∧ Chg (fun k => k = tb) w W' ∧ W'.heap[g]? = some o) ⟨Blk.eq_cs ((((((((((s4.out.set_ 0 _).set_ 1 _).set_ 2 _).set_ 3 _).set_ 4 _).set_ 5 _).set_ 6 _).set_ 7 _).set_ 8 _).set_ 9 _) (by kernel_rfl), ((((((((((hT6.out.set_far (by show tb < w.heap.size + 1; omega) _).set_far (by show tb < w.heap.size + 1; omega) _).set_far (by show tb < w.heap.size + 1; omega) _).set_far (by show tb < w.heap.size + 1; omega) _).set_far (by show tb < w.heap.size + 1; omega) _).set_far (by show tb < w.heap.size + 1; omega) _).set_far (by show tb < w.heap.size + 1; omega) _).set_far (by show tb < w.heap.size + 1; omega) _).set_far (by show tb < w.heap.size + 1; omega) _).set_far (by show tb < w.heap.size + 1; omega) _), ?_, ?_⟩ ?_
          · refine Chg.setCell (Chg.setCell (Chg.setCell (Chg.setCell (Chg.setCell (Chg.setCell (Chg.setCell (Chg.setCell (Chg.setCell (Chg.setCell (s2.out) ?_ _) ?_ _) ?_ _) ?_ _) ?_ _) ?_ _) ?_ _) ?_ _) ?_ _) ?_ _ <;> exact .inr (by show w.heap.size ≤ w.heap.size + 1; omega)
          · repeat rw [Below.heap_setCell _ _ _ _ hg1.out]
            exact s1.out
          rintro W' ⟨g1, g2, g3, g4⟩
          have e0 := g1.cell 0
          have e1 := g1.cell 1
          have e2 := g1.cell 2
          have e3 := g1.cell 3
          have e4 := g1.cell 4
          have e5 := g1.cell 5
          have e6 := g1.cell 6
          have e7 := g1.cell 7
          have e8 := g1.cell 8
          have e9 := g1.cell 9
          refine bodyPost_ret (v := .agg #[.int .i64 0, .int .i64 0, .int .i64 0, .bool false, .string ⟨#[]⟩, .slice (some ⟨g, 0, none⟩) l.length gc, .int .i64 0, .slice none 0 0, .int .i64 (T1.at_ : Nat), .int .u64 0]) (by simp [results, Tryz.results12, go_sem, e0, e1, e2, e3, e4, e5, e6, e7, e8, e9]) rfl ?_
          exact ⟨DD.2, _, _, _, _, l, rfl, g2, g3, hend.out, hl64, hrow.out.own g4 hgw⟩
        · have d1 : decide ((k : Int) < c.shelves) = false := by simpa using hks
          go_wp2_with fail
          refine (hFw.out).mono ?_; rintro e w6 ⟨rfl, hT6, hC6⟩
          obtain ⟨s1, s2, s3, s4, s5⟩ := hst.out _ hC6
          have r0 := s4.cell 0
          have r1 := s4.cell 1
          have r2 := s4.cell 2
          have r3 := s4.cell 3
          have r4 := s4.cell 4
          have r5 := s4.cell 5
          have r6 := s4.cell 6
          have r7 := s4.cell 7
          have r8 := s4.cell 8
          have r9 := s4.cell 9
          have fr0 := s4.frozen 0
          have fr1 := s4.frozen 1
          have fr2 := s4.frozen 2
          have fr3 := s4.frozen 3
          have fr4 := s4.frozen 4
          have fr5 := s4.frozen 5
          have fr6 := s4.frozen 6
          have fr7 := s4.frozen 7
          have fr8 := s4.frozen 8
          have fr9 := s4.frozen 9
          have hl4 := s4.lt
          replace s1 := Lib.hid s1
          replace s2 := Lib.hid s2
          replace s3 := Lib.hid s3
          replace s4 := Lib.hid s4
          replace s5 := Lib.hid s5
          replace hT6 := Lib.hid hT6
          replace hC6 := Lib.hid hC6
          clear c0 c1 c2 c3 c4 c5 t2o q0
          go_wp2_with fail
          refine gen_world (α := fun W' => bodyPost _ _ _ _ _ W') (fun W' => Blk W' (w.heap.size + 1) 42 #[.int .i64 0, .int .i64 0, .int .i64 0, .bool false, .string ⟨#[]⟩, .slice (some ⟨g, 0, none⟩) l.length gc, .int .i64 0, .slice none 0 0, .int .i64 (T1.at_ : Nat), .int .u64 0] ∧ TapeIn W' tb A cc DD.2 ∧ Chg (fun k => k = tb) w W' ∧ W'.heap[g]? = some o) ⟨Blk.eq_cs ((((((((((s4.out.set_ 0 _).set_ 1 _).set_ 2 _).set_ 3 _).set_ 4 _).set_ 5 _).set_ 6 _).set_ 7 _).set_ 8 _).set_ 9 _) (by kernel_rfl), ((((((((((hT6.out.set_far (by show tb < w.heap.size + 1; omega) _).set_far (by show tb < w.heap.size + 1; omega) _).set_far (by show tb < w.heap.size + 1; omega) _).set_far (by show tb < w.heap.size + 1; omega) _).set_far (by show tb < w.heap.size + 1; omega) _).set_far (by show tb < w.heap.size + 1; omega) _).set_far (by show tb < w.heap.size + 1; omega) _).set_far (by show tb < w.heap.size + 1; omega) _).set_far (by show tb < w.heap.size + 1; omega) _).set_far (by show tb < w.heap.size + 1; omega) _), ?_, ?_⟩ ?_
          · refine Chg.setCell (Chg.setCell (Chg.setCell (Chg.setCell (Chg.setCell (Chg.setCell (Chg.setCell (Chg.setCell (Chg.setCell (Chg.setCell (s2.out) ?_ _) ?_ _) ?_ _) ?_ _) ?_ _) ?_ _) ?_ _) ?_ _) ?_ _) ?_ _ <;> exact .inr (by show w.heap.size ≤ w.heap.size + 1; omega)
          · repeat rw [Below.heap_setCell _ _ _ _ hg1.out]
            exact s1.out
          rintro W' ⟨g1, g2, g3, g4⟩
          have e0 := g1.cell 0
          have e1 := g1.cell 1
          have e2 := g1.cell 2
          have e3 := g1.cell 3
          have e4 := g1.cell 4
          have e5 := g1.cell 5
          have e6 := g1.cell 6
          have e7 := g1.cell 7
          have e8 := g1.cell 8
          have e9 := g1.cell 9
          refine bodyPost_ret (v := .agg #[.int .i64 0, .int .i64 0, .int .i64 0, .bool false, .string ⟨#[]⟩, .slice (some ⟨g, 0, none⟩) l.length gc, .int .i64 0, .slice none 0 0, .int .i64 (T1.at_ : Nat), .int .u64 0]) (by simp [results, Tryz.results12, go_sem, e0, e1, e2, e3, e4, e5, e6, e7, e8, e9]) rfl ?_
          exact ⟨DD.2, _, _, _, _, l, rfl, g2, g3, hend.out, hl64, hrow.out.own g4 hgw⟩
end Go.Proofs.YtmlnhjfdhjachaaGreat
