/-
  The document's reading on a tape (layer 26): the walk. No condition.
-/
import Derived.Test.YtfelkkbgbgnpaaaReadE
namespace Go.Proofs.Ytfelkkbgbgnpaaa
set_option linter.unusedVariables false
open Go.ChangeShapes Go.WideShapes Go.ChangeAt Go.RowKit
open Go.ChangeMaps (setBlock)

set_option maxRecDepth 100000 in
set_option maxHeartbeats 2000000 in
theorem refFree_any {w : World} {tb cc : Nat} {A : Option Addr} {T : PTape} (h : TapeIn w tb A cc T) (c : PCfg) (hc : c.Right) (p : Int) (hp : 0 ≤ p ∧ p < c.pins) :
    Calls Try.prog 68 #[.pointer (some ⟨tb, 0, none⟩), c.val, .int .i64 p] w fun e w' => e = .returned (.tuple #[]) ∧ TapeIn w' tb A cc (T.doAct ⟨2, 1, 3 + p, 0, 0, ByteArray.empty⟩).2 ∧ Chg (fun k => k = tb) w w' := by
  have hR := fun W => refPinAt c hc p.toNat (by omega) W
  rw [show ((3 + p.toNat : Nat) : Int) = 3 + p by omega, show ((p.toNat : Nat) : Int) = p by omega] at hR
  have hS := fun W (hW : TapeIn W tb A cc T) => tape_store hW 1 (3 + p) 0
  rw [show c.val = .agg #[.int .i64 c.cap, .int .i64 c.pins, .int .i64 c.shelves, .int .i64 c.queue, .int .i64 c.watchers, .int .u64 c.seed] from rfl] at hR ⊢
  have hz : Below w.heap.size w (w.alloc (.cells #[.int .i64 c.cap, .int .i64 c.pins, .int .i64 c.shelves, .int .i64 c.queue, .int .i64 c.watchers, .int .u64 c.seed] 24)) := (Below.refl _ _).alloc (Nat.le_refl _) _
  clear hc hp
  replace h := Lib.hid h
  replace hR := Lib.hid hR
  replace hS := Lib.hid hS
  replace hz := Lib.hid hz
  go_enter Try.func68, Try.ntmps68
  go_wp2_with fail
  refine (hR.out _).mono ?_; rintro e w1 ⟨rfl, hb⟩
  have hz1 := nx hz.out (Nat.le_refl _) hb
  replace hz1 := Lib.hid hz1
  clear hb
  go_wp2_with fail
  refine (hS.out _ (h.out.below hz1.out)).mono ?_; rintro e w2 ⟨rfl, h2, h3⟩
  have hC := (Chg.of_below hz1.out (fun k => k = tb)).trans h3 fun i hi => Or.inl hi
  clear h3
  replace h2 := Lib.hid h2
  replace hC := Lib.hid hC
  go_wp2_with fail
  exact bodyPost_end (v := .tuple #[]) (results_none (by kernel_rfl) _ _ _) rfl ⟨rfl, h2.out, hC.out⟩
/-- Between two rounds of looking on a tape that is over: there is but one. -/
structure OverRel (w : World) (tb : Nat) (A : Option Addr) (cc : Nat) (c : PCfg) (T : PTape) (iv : Value) (wr : World) : Prop where
  iv : iv = .int .i64 0
  tape : TapeIn wr tb A cc T
  chg : Chg (fun k => k = tb) w wr
  b0 : Blk wr w.heap.size 24 #[.int .i64 c.cap, .int .i64 c.pins, .int .i64 c.shelves, .int .i64 c.queue, .int .i64 c.watchers, .int .u64 c.seed]
  b1 : Blk wr (w.heap.size + 1) 131 #[.int .i64 0, .int .i64 0]
set_option maxRecDepth 100000 in
set_option maxHeartbeats 4000000 in
theorem refFind_over {w : World} {tb cc : Nat} {A : Option Addr} {T : PTape} (h : TapeIn w tb A cc T) (ho : T.over = true) (c : PCfg) (hc : c.Right) (key : ByteArray) (hkey : key.size ≤ 9223372036854775807) :
    Calls Try.prog 66 #[.pointer (some ⟨tb, 0, none⟩), c.val, .string key] w fun e w' => e = .returned (.agg #[.int .i64 0, .int .i64 0]) ∧ TapeIn w' tb A cc T ∧ Chg (fun k => k = tb) w w' := by
  have hp := hc.shelves
  have hAt := fun (k : Nat) (hk : (k : Int) < c.shelves) W => refKeyAt c hc k hk W
  have hSm := fun W => refSum_any c.seed key hkey W
  have hso := sumP_ok c.seed key
  have hPl := fun W => refPlace_any (sumP c.seed key) c.shelves 0 hso hp ⟨by omega, by omega⟩ W
  obtain ⟨pl, hpl⟩ : ∃ pl : Nat, placeP (sumP c.seed key) c.shelves 0 = pl := ⟨(placeP (sumP c.seed key) c.shelves 0).toNat, by have := placeP_ok (sumP c.seed key) c.shelves 0 hp.1; omega⟩
  have hpll : (pl : Int) < c.shelves := by rw [← hpl]; exact (placeP_ok _ _ _ hp.1).2
  rw [hpl] at hPl
  have hAk := hAt pl hpll
  obtain ⟨cx, hcx⟩ : ∃ cx : Int, 3 + c.pins + c.cap + 2 * (pl : Int) = cx := ⟨_, rfl⟩
  rw [hcx] at hAk
  rw [show c.val = .agg #[.int .i64 c.cap, .int .i64 c.pins, .int .i64 c.shelves, .int .i64 c.queue, .int .i64 c.watchers, .int .u64 c.seed] from rfl] at hAk ⊢
  have hz : Below w.heap.size w ((w.alloc (.cells #[.int .i64 c.cap, .int .i64 c.pins, .int .i64 c.shelves, .int .i64 c.queue, .int .i64 c.watchers, .int .u64 c.seed] 24)).alloc (.cells #[.int .i64 0, .int .i64 0] 131)) := ((Below.refl _ _).alloc (Nat.le_refl _) _).alloc (by simp) _
  have hT0 := h.below hz
  have hK := Chg.of_below hz (fun k => k = tb)
  have hlt := h.blk.lt
  have B0 := (Blk.new w 24 #[.int .i64 c.cap, .int .i64 c.pins, .int .i64 c.shelves, .int .i64 c.queue, .int .i64 c.watchers, .int .u64 c.seed]).alloc (.cells #[.int .i64 0, .int .i64 0] 131)
  have B1 := Blk.new (w.alloc (.cells #[.int .i64 c.cap, .int .i64 c.pins, .int .i64 c.shelves, .int .i64 c.queue, .int .i64 c.watchers, .int .u64 c.seed] 24)) 131 #[.int .i64 0, .int .i64 0]
  simp only [World.size_alloc] at B1
  have d2 : decide ((0 : Int) < c.shelves) = true := by simp; omega
  clear hc hAt hpl hpll hcx hp
  replace h := Lib.hid h
  replace ho := Lib.hid ho
  replace hAk := Lib.hid hAk
  replace hSm := Lib.hid hSm
  replace hso := Lib.hid hso
  replace hPl := Lib.hid hPl
  replace hT0 := Lib.hid hT0
  replace hK := Lib.hid hK
  replace B0 := Lib.hid B0
  replace B1 := Lib.hid B1
  replace hz := Lib.hid hz
  go_enter Try.func66, Try.ntmps66
  go_wp2_with fail
  refine (hSm.out _).mono ?_; rintro e w1 ⟨rfl, rfl⟩
  go_wp2_with fail
  go_loopw [8] (fun iv wr => OverRel w tb A cc c T iv wr) (fun _ _ => 0)
  case atStart => exact ⟨rfl, hT0.out, hK.out, B0.out, B1.out⟩
  case round =>
    obtain ⟨rfl, hT2, hK2, b02, b12⟩ := hrel
    have c0 := b02.cell 0
    have c1 := b02.cell 1
    have c2 := b02.cell 2
    have c3 := b02.cell 3
    have c4 := b02.cell 4
    have c5 := b02.cell 5
    have hs2 := b02.lt
    have hs3 := b12.lt
    have htl := hT2.blk.lt
    have hLd := fun W (hb : Below wr.heap.size wr W) => tape_load (hT2.below hb) 1 cx
    rw [over_do ho.out] at hLd
    simp only at hLd
    replace b02 := Lib.hid b02
    replace b12 := Lib.hid b12
    replace hK2 := Lib.hid hK2
    replace hT2 := Lib.hid hT2
    replace hLd := Lib.hid hLd
    go_wp2_with fail
    refine (hPl.out _).mono ?_; rintro e w2 ⟨rfl, rfl⟩
    go_wp2_with fail
    refine (hAk.out _).mono ?_; rintro e w3 ⟨rfl, hb3⟩
    have b13 := b12.out.below hb3 b12.out.lt
    have hK3 := hK2.out.next_ hb3
    have hLd3 := hLd.out _ hb3
    clear hb3
    replace b13 := Lib.hid b13
    replace hK3 := Lib.hid hK3
    replace hLd3 := Lib.hid hLd3
    go_wp2_with fail
    refine (hLd3.out).mono ?_; rintro e w4 ⟨rfl, hT4, hC4⟩
    have t24 : w4.cell? ⟨tb, 2, none⟩ = some (.bool T.over) := hT4.blk.cell 2
    rw [ho.out] at t24
    have b14 := b13.out.keep (hC4.block _ b13.out.lt (by omega))
    have hK4 := hK3.out.trans hC4 fun i hi => Or.inl hi
    have r0 := b14.cell 0
    have r1 := b14.cell 1
    have fr0 := b14.frozen 0
    have fr1 := b14.frozen 1
    replace hC4 := Lib.hid hC4
    replace b14 := Lib.hid b14
    replace hK4 := Lib.hid hK4
    replace hT4 := Lib.hid hT4
    go_wp2_with fail
    refine gen_world (α := fun W' => bodyPost _ _ _ _ _ W') (fun W' => Blk W' (w.heap.size + 1) 131 #[.int .i64 0, .int .i64 0] ∧ TapeIn W' tb A cc T ∧ Chg (fun k => k = tb) w W') ⟨?_, ?_, ?_⟩ ?_
    · exact Blk.eq_cs ((b14.out.set_ 0 _).set_ 1 _) rfl
    · exact (hT4.out.set_far (by show tb < w.heap.size + 1; omega) _).set_far (by show tb < w.heap.size + 1; omega) _
    · refine Chg.setCell (Chg.setCell hK4.out ?_ _) ?_ _ <;> exact .inr (by show w.heap.size ≤ w.heap.size + 1; omega)
    rintro W' ⟨g1, g2, g3⟩
    have e0 := g1.cell 0
    have e1 := g1.cell 1
    refine bodyPost_ret (v := .agg #[.int .i64 0, .int .i64 0]) (by simp [results, Try.results66, go_sem, e0, e1]) rfl ?_
    exact ⟨rfl, g2, g3⟩
/-- What the document's reading leaves. -/
def ReadPost (c : PCfg) (th : Int) (key : ByteArray) (Q : List PGot) (w : World) (tb : Nat) (A : Option Addr) (cc : Nat) (e : Ending) (w' : World) : Prop :=
  ∃ T' code took value mark, e = .returned (.agg #[.int .i64 code, .int .i64 0, .int .i64 0, .bool took, .string value, .slice none 0 0, .int .i64 0, .slice none 0 0, .int .i64 mark, .int .u64 0]) ∧ TapeIn w' tb A cc T' ∧ Chg (fun k => k = tb) w w' ∧ ReadEnd c th key Q T' code took value mark
set_option maxRecDepth 100000 in
set_option maxHeartbeats 1000000 in
theorem refRead_any {w : World} {tb cc : Nat} {A : Option Addr} {T : PTape} (h : TapeIn w tb A cc T) (h0 : T.over = false) (h1 : T.at_ = 0) (h2 : T.act = noAct) (c : PCfg) (hc : c.Right) (th : Int) (hth : 0 ≤ th ∧ th ≤ 9223372036854775807) (key : ByteArray) (hk : key.size ≤ 9223372036854775807) (hok : ∀ g ∈ T.got, g.Ok) (hlen : T.got.length ≤ 1000) :
    Calls Try.prog 17 #[.pointer (some ⟨tb, 0, none⟩), c.val, .int .i64 th, .string key] w (ReadPost c th key T.got w tb A cc) := by
  have hlt := h.blk.lt
  have hz : Below w.heap.size w ((w.alloc (.cells #[.int .i64 c.cap, .int .i64 c.pins, .int .i64 c.shelves, .int .i64 c.queue, .int .i64 c.watchers, .int .u64 c.seed] 24)).alloc (.cells #[.int .i64 0, .int .i64 0, .int .i64 0, .bool false, .string ⟨#[]⟩, .slice none 0 0, .int .i64 0, .slice none 0 0, .int .i64 0, .int .u64 0] 42)) := ((Below.refl _ _).alloc (Nat.le_refl _) _).alloc (by simp) _
  have hPn := refPin_gen (h.below hz) h0 h1 h2 c hc th hth hok
  have B0 := (Blk.new w 24 #[.int .i64 c.cap, .int .i64 c.pins, .int .i64 c.shelves, .int .i64 c.queue, .int .i64 c.watchers, .int .u64 c.seed]).alloc (.cells #[.int .i64 0, .int .i64 0, .int .i64 0, .bool false, .string ⟨#[]⟩, .slice none 0 0, .int .i64 0, .slice none 0 0, .int .i64 0, .int .u64 0] 42)
  have B1 := Blk.new (w.alloc (.cells #[.int .i64 c.cap, .int .i64 c.pins, .int .i64 c.shelves, .int .i64 c.queue, .int .i64 c.watchers, .int .u64 c.seed] 24)) 42 #[.int .i64 0, .int .i64 0, .int .i64 0, .bool false, .string ⟨#[]⟩, .slice none 0 0, .int .i64 0, .slice none 0 0, .int .i64 0, .int .u64 0]
  simp only [World.size_alloc] at B1
  have hmid := fun (T1 : PTape) (p ep : Int) (tk : Bool) h4 => read_mid1 (key := key) (p := p) (ep := ep) (tk := tk) (T1 := T1) hc hth.1 hok h0 h1 h2 rfl h4
  have hFr := fun (W : World) (T' : PTape) (hT : TapeIn W tb A cc T') (p : Int) (hp : 0 ≤ p ∧ p < c.pins) => refFree_any hT c hc p hp
  have hFo := fun (W : World) (T' : PTape) (hT : TapeIn W tb A cc T') ho => refFind_over hT ho c hc key hk
  have hFg := fun (W : World) (T' : PTape) (hT : TapeIn W tb A cc T') (a0 : Nat) hst => refFind_gen c key hT (a0 := a0) (Q := T.got) hst hc hk hok
  have hCg := fun (W : World) (T' : PTape) (hT : TapeIn W tb A cc T') (sh ep : Int) (hsh : 0 ≤ sh ∧ sh < c.shelves) (hep : 0 ≤ ep ∧ ep ≤ 18446744073709551615) (a0 : Nat) hst => refChain_gen hT (a0 := a0) (Q := T.got) c hc sh ep hsh hep (Ends.ended _ _ _) (.inr hst) hok
  generalize hQ : T.got = Q at *
  rw [show c.val = .agg #[.int .i64 c.cap, .int .i64 c.pins, .int .i64 c.shelves, .int .i64 c.queue, .int .i64 c.watchers, .int .u64 c.seed] from rfl] at *
  clear h0 h1 h2
  replace h := Lib.hid h
  replace hz := Lib.hid hz
  replace hPn := Lib.hid hPn
  replace B0 := Lib.hid B0
  replace B1 := Lib.hid B1
  replace hmid := Lib.hid hmid
  replace hFr := Lib.hid hFr
  replace hFo := Lib.hid hFo
  replace hFg := Lib.hid hFg
  replace hCg := Lib.hid hCg
  replace hQ := Lib.hid hQ
  go_enter Try.func17, Try.ntmps17
  go_wp2_with fail
  refine (hPn.out).mono ?_; rintro e w1 ⟨T1, p, ep, tk, rfl, hT1, hC1, hz1⟩
  have hM1 := hmid.out T1 p ep tk hz1
  have hsz := hC1.size
  simp only [World.size_alloc] at hsz
  have b0 := (B0.out.keep (hC1.block w.heap.size (by simp; omega) (by omega))).alloc (.cells #[.int .i64 p, .int .u64 ep, .bool tk] 128)
  have b1 := (B1.out.keep (hC1.block (w.heap.size + 1) (by simp) (by omega))).alloc (.cells #[.int .i64 p, .int .u64 ep, .bool tk] 128)
  have b9 := Blk.new w1 128 #[.int .i64 p, .int .u64 ep, .bool tk]
  have hK1 : Chg (fun k => k = tb) w (w1.alloc (.cells #[.int .i64 p, .int .u64 ep, .bool tk] 128)) := ((Chg.of_below hz.out (fun k => k = tb)).trans hC1 fun i hi => Or.inl hi).alloc _
  have hT1' := hT1.below (Below.more_ (Below.refl _ _) (.cells #[.int .i64 p, .int .u64 ep, .bool tk] 128))
  clear hT1 hC1 hz1 hPn
  have hbl0 := b0.lt
  have hbl1 := b1.lt
  have hbl9 := b9.lt
  cases tk with
  | true =>
    have hE : ReadEnd c th key Q T1 11 false ByteArray.empty 0 := by
      rcases hM1.2 with hE | ⟨_, s, hF, h5, hs1, hs2, hs3, hs4⟩ | ⟨e, _⟩
      · exact read_ended hE _ _ _ _
      · have := read_fed hF h5
        rw [hs1, hs2, hs3, hs4] at this
        exact this
      · cases e
    have z2 := b9.cell 2
    have r0 := b1.cell 0
    have r1 := b1.cell 1
    have r2 := b1.cell 2
    have r3 := b1.cell 3
    have r4 := b1.cell 4
    have r5 := b1.cell 5
    have r6 := b1.cell 6
    have r7 := b1.cell 7
    have r8 := b1.cell 8
    have r9 := b1.cell 9
    have fr0 := b1.frozen 0
    have fr1 := b1.frozen 1
    have fr2 := b1.frozen 2
    have fr3 := b1.frozen 3
    have fr4 := b1.frozen 4
    have fr5 := b1.frozen 5
    have fr6 := b1.frozen 6
    have fr7 := b1.frozen 7
    have fr8 := b1.frozen 8
    have fr9 := b1.frozen 9
    replace b0 := Lib.hid b0
    replace b1 := Lib.hid b1
    replace b9 := Lib.hid b9
    replace hK1 := Lib.hid hK1
    replace hT1' := Lib.hid hT1'
    replace hM1 := Lib.hid hM1
    replace hE := Lib.hid hE
    clear hmid hFr hFo hFg hCg hM1 hbl0 hbl1 hbl9
    go_wp2_with fail
    refine gen_world (α := fun W' => bodyPost _ _ _ _ _ W') (fun W' => Blk W' (w.heap.size + 1) 42 #[.int .i64 11, .int .i64 0, .int .i64 0, .bool false, .string ⟨#[]⟩, .slice none 0 0, .int .i64 0, .slice none 0 0, .int .i64 0, .int .u64 0] ∧ TapeIn W' tb A cc T1 ∧ Chg (fun k => k = tb) w W') ⟨Blk.eq_cs ((((((((((b1.out.set_ 0 _).set_ 1 _).set_ 2 _).set_ 3 _).set_ 4 _).set_ 5 _).set_ 6 _).set_ 7 _).set_ 8 _).set_ 9 _) (by kernel_rfl), ((((((((((hT1'.out.set_far (by show tb < w.heap.size + 1; omega) _).set_far (by show tb < w.heap.size + 1; omega) _).set_far (by show tb < w.heap.size + 1; omega) _).set_far (by show tb < w.heap.size + 1; omega) _).set_far (by show tb < w.heap.size + 1; omega) _).set_far (by show tb < w.heap.size + 1; omega) _).set_far (by show tb < w.heap.size + 1; omega) _).set_far (by show tb < w.heap.size + 1; omega) _).set_far (by show tb < w.heap.size + 1; omega) _).set_far (by show tb < w.heap.size + 1; omega) _), ?_⟩ ?_
    · refine Chg.setCell (Chg.setCell (Chg.setCell (Chg.setCell (Chg.setCell (Chg.setCell (Chg.setCell (Chg.setCell (Chg.setCell (Chg.setCell (hK1.out) ?_ _) ?_ _) ?_ _) ?_ _) ?_ _) ?_ _) ?_ _) ?_ _) ?_ _) ?_ _ <;> exact .inr (by show w.heap.size ≤ w.heap.size + 1; omega)
    rintro W' ⟨g1, g2, g3⟩
    have e0 := g1.cell 0
    have e1 := g1.cell 1
    have e2 := g1.cell 2
    have e3 := g1.cell 3
    have e4 := g1.cell 4
    have e5 := g1.cell 5
    have e6 := g1.cell 6
    have e7 := g1.cell 7
    have e8 := g1.cell 8
    have e9 := g1.cell 9
    refine bodyPost_ret (v := .agg #[.int .i64 11, .int .i64 0, .int .i64 0, .bool false, .string ⟨#[]⟩, .slice none 0 0, .int .i64 0, .slice none 0 0, .int .i64 0, .int .u64 0]) (by simp [results, Try.results17, go_sem, e0, e1, e2, e3, e4, e5, e6, e7, e8, e9]) rfl ?_
    exact ⟨T1, _, _, _, _, rfl, g2, g3, hE.out⟩
  | false =>
    have hpr := hM1.1 rfl
    have t2a : (w1.alloc (.cells #[.int .i64 p, .int .u64 ep, .bool false] 128)).cell? ⟨tb, 1, none⟩ = some (.int .i64 (T1.at_ : Nat)) := hT1'.blk.cell 1
    have htl1 := hT1'.blk.lt
    simp only [World.size_alloc] at hbl0 hbl1 hbl9 htl1
    have hsw := b0.lt
    have z0 := b9.cell 0
    have z1 := b9.cell 1
    have z2 := b9.cell 2
    have hat1 : T1.at_ ≤ 1000000 := by
      rcases hM1.2 with hE | ⟨e, _⟩ | ⟨_, _, s, _, _, hF⟩
      · have := hE.at_; omega
      · cases e
      · have := hF.at_; omega
    -- looking for the key
    have hF2 : ∀ W, TapeIn W tb A cc T1 → Calls Try.prog 66 #[.pointer (some ⟨tb, 0, none⟩), .agg #[.int .i64 c.cap, .int .i64 c.pins, .int .i64 c.shelves, .int .i64 c.queue, .int .i64 c.watchers, .int .u64 c.seed], .string key] W fun e w' => ∃ T2 kd sh, e = .returned (.agg #[.int .i64 kd, .int .i64 sh]) ∧ TapeIn w' tb A cc T2 ∧ Chg (fun k => k = tb) W w' ∧ RMid2 c th key Q T2 p ep kd sh T1.at_ ∧ (0 ≤ ep ∧ ep ≤ 18446744073709551615 ∨ kd = 0) := by
      intro W hT
      rcases hM1.2 with hE | ⟨e, _⟩ | ⟨_, hep, s, hsp, hse, hF⟩
      · refine (hFo.out W T1 hT hE.over).mono ?_
        rintro e w' ⟨he, h3, h4⟩
        exact ⟨T1, 0, 0, he, h3, h4, .inl ⟨rfl, hE⟩, .inr rfl⟩
      · cases e
      · refine (hFg.out W T1 hT T1.at_ (FedA.start _ _ _ hF.over hF.at_ hF.idle hF.got)).mono ?_
        rintro e w' ⟨T2, kd, sh, he, h3, h4, h5⟩
        exact ⟨T2, kd, sh, he, h3, h4, read_mid2 hsp hse hF h5, .inl hep⟩
    have x0 := b0.cell 0
    have x1 := b0.cell 1
    have x2 := b0.cell 2
    have x3 := b0.cell 3
    have x4 := b0.cell 4
    have x5 := b0.cell 5
    replace b0 := Lib.hid b0
    replace b1 := Lib.hid b1
    replace b9 := Lib.hid b9
    replace hK1 := Lib.hid hK1
    replace hT1' := Lib.hid hT1'
    replace hM1 := Lib.hid hM1
    replace hF2 := Lib.hid hF2
    go_wp2_with fail
    have bR := Blk.new (w1.alloc (.cells #[.int .i64 p, .int .u64 ep, .bool false] 128)) 40 #[.int .i64 0, .int .i64 0, .int .i64 0, .bool false, .string ⟨#[]⟩, .slice none 0 0, .int .i64 0, .slice none 0 0]
    refine (hF2.out _ (hT1'.out.below (Below.more_ (Below.refl _ _) _))).mono ?_; rintro e w3 ⟨T2, kd, sh, rfl, hT3, hC3, hM2, hep⟩
    have hsz3 := hC3.size
    simp only [World.size_alloc] at hsz3
    have b03 := ((b0.out.alloc (.cells #[.int .i64 0, .int .i64 0, .int .i64 0, .bool false, .string ⟨#[]⟩, .slice none 0 0, .int .i64 0, .slice none 0 0] 40)).keep (hC3.block _ (b0.out.alloc _).lt (by omega))).alloc (.cells #[.int .i64 kd, .int .i64 sh] 131)
    have b13 := ((b1.out.alloc (.cells #[.int .i64 0, .int .i64 0, .int .i64 0, .bool false, .string ⟨#[]⟩, .slice none 0 0, .int .i64 0, .slice none 0 0] 40)).keep (hC3.block _ (b1.out.alloc _).lt (by omega))).alloc (.cells #[.int .i64 kd, .int .i64 sh] 131)
    have b93 := ((b9.out.alloc (.cells #[.int .i64 0, .int .i64 0, .int .i64 0, .bool false, .string ⟨#[]⟩, .slice none 0 0, .int .i64 0, .slice none 0 0] 40)).keep (hC3.block _ (b9.out.alloc _).lt (by omega))).alloc (.cells #[.int .i64 kd, .int .i64 sh] 131)
    have bR3 := (bR.keep (hC3.block _ bR.lt (by simp; omega))).alloc (.cells #[.int .i64 kd, .int .i64 sh] 131)
    have bF3 := Blk.new w3 131 #[.int .i64 kd, .int .i64 sh]
    have hK3 : Chg (fun k => k = tb) w (w3.alloc (.cells #[.int .i64 kd, .int .i64 sh] 131)) := ((hK1.out.alloc _).trans hC3 fun i hi => Or.inl hi).alloc _
    have hT3' := hT3.below (Below.more_ (Below.refl _ _) (.cells #[.int .i64 kd, .int .i64 sh] 131))
    simp only [World.size_alloc] at bR3
    have k0 := bF3.cell 0
    have k1 := bF3.cell 1
    have y0 := b03.cell 0
    have y1 := b03.cell 1
    have y2 := b03.cell 2
    have y3 := b03.cell 3
    have y4 := b03.cell 4
    have y5 := b03.cell 5
    have q0 := b93.cell 0
    have q1 := b93.cell 1
    clear t2a z0 z1 z2 hC3 hT3 bR hF2 x0 x1 x2 x3 x4 x5
    have hl03 := b03.lt
    have hl13 := b13.lt
    have hl93 := b93.lt
    have hlR3 := bR3.lt
    by_cases hkd : kd = 1
    · subst hkd
      have hep' : 0 ≤ ep ∧ ep ≤ 18446744073709551615 := by
        rcases hep with h | h
        · exact h
        · cases h
      have hCw : ∀ W, TapeIn W tb A cc T2 → Calls Try.prog 67 #[.pointer (some ⟨tb, 0, none⟩), .agg #[.int .i64 c.cap, .int .i64 c.pins, .int .i64 c.shelves, .int .i64 c.queue, .int .i64 c.watchers, .int .u64 c.seed], .int .i64 sh, .int .u64 ep] W fun e w' => ∃ T3 hs tx bk n, e = .returned (.tuple #[.agg #[.bool hs, .string tx, .int .u64 bk], .int .i64 n]) ∧ TapeIn w' tb A cc T3 ∧ Chg (fun k => k = tb) W w' ∧ RMid3 c th key Q T3 p hs tx T1.at_ := by
        intro W hT
        rcases hM2 with ⟨e, _⟩ | ⟨_, hsh, s, f, hsp, hse, hF⟩ | ⟨_, e, _⟩
        · cases e
        · refine (hCg.out W T2 hT sh ep hsh hep' T2.at_ (FedA.start _ _ _ hF.over hF.at_ hF.idle hF.got)).mono ?_
          rintro e w' ⟨T3, hs, tx, bk, n, he, h3, h4, h5⟩
          exact ⟨T3, hs, tx, bk, n, he, h3, h4, read_mid3 hsp hF h5⟩
        · exact absurd rfl e
      have hFrr := hFr.out
      clear hmid hFr hFo hFg hCg hM1 hM2 hep
      replace b03 := Lib.hid b03
      replace b13 := Lib.hid b13
      replace b93 := Lib.hid b93
      replace bR3 := Lib.hid bR3
      replace bF3 := Lib.hid bF3
      replace hK3 := Lib.hid hK3
      replace hT3' := Lib.hid hT3'
      replace hCw := Lib.hid hCw
      replace hFrr := Lib.hid hFrr
      go_wp2_with fail
      refine (hCw.out _ hT3'.out).mono ?_; rintro e w4 ⟨T3, hs, tx, bk, nn, rfl, hT4, hC4, hM3⟩
      have hsz4 := hC4.size
      simp only [World.size_alloc] at hsz4
      have b04 := (b03.out.keep (hC4.block _ b03.out.lt (by omega))).alloc (.cells #[.bool hs, .string tx, .int .u64 bk] 134)
      have b14 := (b13.out.keep (hC4.block _ b13.out.lt (by omega))).alloc (.cells #[.bool hs, .string tx, .int .u64 bk] 134)
      have b94 := (b93.out.keep (hC4.block _ b93.out.lt (by omega))).alloc (.cells #[.bool hs, .string tx, .int .u64 bk] 134)
      have bR4 := (bR3.out.keep (hC4.block _ bR3.out.lt (by omega))).alloc (.cells #[.bool hs, .string tx, .int .u64 bk] 134)
      have bV4 := Blk.new w4 134 #[.bool hs, .string tx, .int .u64 bk]
      have hK4 : Chg (fun k => k = tb) w (w4.alloc (.cells #[.bool hs, .string tx, .int .u64 bk] 134)) := (hK3.out.trans hC4 fun i hi => Or.inl hi).alloc _
      have hT4' := hT4.below (Below.more_ (Below.refl _ _) (.cells #[.bool hs, .string tx, .int .u64 bk] 134))
      have hEnd := read_free hat1 hM3
      clear k0 k1 y0 y1 y2 y3 y4 y5 q0 q1 hC4 hT4 hCw
      have y0 := b04.cell 0
      have y1 := b04.cell 1
      have y2 := b04.cell 2
      have y3 := b04.cell 3
      have y4 := b04.cell 4
      have y5 := b04.cell 5
      have q0 := b94.cell 0
      have vV0 := bV4.cell 0
      have vV1 := bV4.cell 1
      have vR0 := bR4.cell 0
      have vR1 := bR4.cell 1
      have vR2 := bR4.cell 2
      have vR3 := bR4.cell 3
      have vR4 := bR4.cell 4
      have vR5 := bR4.cell 5
      have vR6 := bR4.cell 6
      have vR7 := bR4.cell 7
      have vf0 := bR4.frozen 0
      have vf1 := bR4.frozen 1
      have vf2 := bR4.frozen 2
      have vf3 := bR4.frozen 3
      have vf4 := bR4.frozen 4
      have vf5 := bR4.frozen 5
      have vf6 := bR4.frozen 6
      have vf7 := bR4.frozen 7
      have hl04 := b04.lt
      have hl14 := b14.lt
      have hl94 := b94.lt
      have hlR4 := bR4.lt
      simp only [World.size_alloc] at hl04 hl14 hl94 hlR4 hl03 hl13 hl93 hlR3
      replace b04 := Lib.hid b04
      replace b14 := Lib.hid b14
      replace b94 := Lib.hid b94
      replace bR4 := Lib.hid bR4
      replace bV4 := Lib.hid bV4
      replace hK4 := Lib.hid hK4
      replace hT4' := Lib.hid hT4'
      replace hM3 := Lib.hid hM3
      replace hEnd := Lib.hid hEnd
      go_wp2_with fail
      refine gen_world (α := fun W' => Calls Try.prog 68 _ W' _) (fun W' => Blk W' (w.heap.size + 1) 42 #[.int .i64 0, .int .i64 0, .int .i64 0, .bool false, .string ⟨#[]⟩, .slice none 0 0, .int .i64 0, .slice none 0 0, .int .i64 0, .int .u64 0] ∧ Blk W' (w1.heap.size + 1) 40 #[.int .i64 0, .int .i64 0, .int .i64 0, .bool hs, .string tx, .slice none 0 0, .int .i64 0, .slice none 0 0] ∧ TapeIn W' tb A cc T3 ∧ Chg (fun k => k = tb) w W') ⟨?_, ?_, ?_, ?_⟩ ?_
      · repeat (refine Blk.far ?_ (by show w.heap.size + 1 ≠ w1.heap.size + 1; omega) _)
        exact b14.out
      · exact Blk.eq_cs ((((((((bR4.out.set_ 0 _).set_ 1 _).set_ 2 _).set_ 3 _).set_ 4 _).set_ 5 _).set_ 6 _).set_ 7 _) (by kernel_rfl)
      · repeat (refine TapeIn.set_far ?_ (by show tb < w1.heap.size + 1; omega) _)
        exact hT4'.out
      · repeat (refine Chg.setCell ?_ (.inr (by show w.heap.size ≤ w1.heap.size + 1; omega)) _)
        exact hK4.out
      rintro W5 ⟨b15, bR5, hT5, hK5⟩
      have hl15 := b15.lt
      have hlR5 := bR5.lt
      have hlT5 := hT5.blk.lt
      have hFw := hFrr.out W5 T3 hT5 p hpr
      clear y0 y1 y2 y3 y4 y5 q0 vV0 vV1 vR0 vR1 vR2 vR3 vR4 vR5 vR6 vR7 vf0 vf1 vf2 vf3 vf4 vf5 vf6 vf7 hFrr
      generalize T3.doAct ⟨2, 1, 3 + p, 0, 0, ByteArray.empty⟩ = DD at *
      replace b15 := Lib.hid b15
      replace bR5 := Lib.hid bR5
      replace hT5 := Lib.hid hT5
      replace hK5 := Lib.hid hK5
      replace hFw := Lib.hid hFw
      refine (hFw.out).mono ?_; rintro e w6 ⟨rfl, hT6, hC6⟩
      have hsz6 := hC6.size
      have b16 := b15.out.keep (hC6.block _ b15.out.lt (by omega))
      have bR6 := bR5.out.keep (hC6.block _ bR5.out.lt (by omega))
      have hK6 := hK5.out.trans hC6 fun i hi => Or.inl hi
      clear hFw
      have r0 := b16.cell 0
      have r1 := b16.cell 1
      have r2 := b16.cell 2
      have r3 := b16.cell 3
      have r4 := b16.cell 4
      have r5 := b16.cell 5
      have r6 := b16.cell 6
      have r7 := b16.cell 7
      have r8 := b16.cell 8
      have r9 := b16.cell 9
      have fr0 := b16.frozen 0
      have fr1 := b16.frozen 1
      have fr2 := b16.frozen 2
      have fr3 := b16.frozen 3
      have fr4 := b16.frozen 4
      have fr5 := b16.frozen 5
      have fr6 := b16.frozen 6
      have fr7 := b16.frozen 7
      have fr8 := b16.frozen 8
      have fr9 := b16.frozen 9
      have sR0 := bR6.cell 0
      have sR1 := bR6.cell 1
      have sR2 := bR6.cell 2
      have sR3 := bR6.cell 3
      have sR4 := bR6.cell 4
      have sR5 := bR6.cell 5
      have sR6 := bR6.cell 6
      have sR7 := bR6.cell 7
      have hl16 := b16.lt
      replace hT6 := Lib.hid hT6
      replace b16 := Lib.hid b16
      replace bR6 := Lib.hid bR6
      replace hK6 := Lib.hid hK6
      replace hC6 := Lib.hid hC6

      go_wp2_with fail
      refine gen_world (α := fun W' => bodyPost _ _ _ _ _ W') (fun W' => Blk W' (w.heap.size + 1) 42 #[.int .i64 0, .int .i64 0, .int .i64 0, .bool hs, .string tx, .slice none 0 0, .int .i64 0, .slice none 0 0, .int .i64 (T1.at_ : Nat), .int .u64 0] ∧ TapeIn W' tb A cc DD.2 ∧ Chg (fun k => k = tb) w W') ⟨Blk.eq_cs ((((((((((b16.out.set_ 0 _).set_ 1 _).set_ 2 _).set_ 3 _).set_ 4 _).set_ 5 _).set_ 6 _).set_ 7 _).set_ 8 _).set_ 9 _) (by kernel_rfl), ((((((((((hT6.out.set_far (by show tb < w.heap.size + 1; omega) _).set_far (by show tb < w.heap.size + 1; omega) _).set_far (by show tb < w.heap.size + 1; omega) _).set_far (by show tb < w.heap.size + 1; omega) _).set_far (by show tb < w.heap.size + 1; omega) _).set_far (by show tb < w.heap.size + 1; omega) _).set_far (by show tb < w.heap.size + 1; omega) _).set_far (by show tb < w.heap.size + 1; omega) _).set_far (by show tb < w.heap.size + 1; omega) _).set_far (by show tb < w.heap.size + 1; omega) _), ?_⟩ ?_
      · refine Chg.setCell (Chg.setCell (Chg.setCell (Chg.setCell (Chg.setCell (Chg.setCell (Chg.setCell (Chg.setCell (Chg.setCell (Chg.setCell (hK6.out) ?_ _) ?_ _) ?_ _) ?_ _) ?_ _) ?_ _) ?_ _) ?_ _) ?_ _) ?_ _ <;> exact .inr (by show w.heap.size ≤ w.heap.size + 1; omega)
      rintro W' ⟨g1, g2, g3⟩
      have e0 := g1.cell 0
      have e1 := g1.cell 1
      have e2 := g1.cell 2
      have e3 := g1.cell 3
      have e4 := g1.cell 4
      have e5 := g1.cell 5
      have e6 := g1.cell 6
      have e7 := g1.cell 7
      have e8 := g1.cell 8
      have e9 := g1.cell 9
      refine bodyPost_ret (v := .agg #[.int .i64 0, .int .i64 0, .int .i64 0, .bool hs, .string tx, .slice none 0 0, .int .i64 0, .slice none 0 0, .int .i64 (T1.at_ : Nat), .int .u64 0]) (by simp [results, Try.results17, go_sem, e0, e1, e2, e3, e4, e5, e6, e7, e8, e9]) rfl ?_
      exact ⟨DD.2, _, _, _, _, rfl, g2, g3, hEnd.out⟩
    · have d1 : (kd == 1) = false := by simp [hkd]
      have hM3 : RMid3 c th key Q T2 p false ByteArray.empty T1.at_ := by
        rcases hM2 with ⟨_, hE⟩ | ⟨e, _⟩ | ⟨_, _, s, f, x, hsp, hF⟩
        · exact .inl hE
        · exact absurd e hkd
        · exact .inr ⟨s, f, x, hsp, hF⟩
      have hEnd := read_free hat1 hM3
      have hFw := hFr.out _ _ hT3' p hpr
      generalize T2.doAct ⟨2, 1, 3 + p, 0, 0, ByteArray.empty⟩ = DD at *
      clear hmid hFr hFo hFg hCg hM1
      have vR0 := bR3.cell 0
      have vR1 := bR3.cell 1
      have vR2 := bR3.cell 2
      have vR3 := bR3.cell 3
      have vR4 := bR3.cell 4
      have vR5 := bR3.cell 5
      have vR6 := bR3.cell 6
      have vR7 := bR3.cell 7
      replace b03 := Lib.hid b03
      replace b13 := Lib.hid b13
      replace b93 := Lib.hid b93
      replace bR3 := Lib.hid bR3
      replace bF3 := Lib.hid bF3
      replace hK3 := Lib.hid hK3
      replace hT3' := Lib.hid hT3'
      replace hM2 := Lib.hid hM2
      replace hM3 := Lib.hid hM3
      replace hEnd := Lib.hid hEnd
      replace hFw := Lib.hid hFw
      replace hkd := Lib.hid hkd
      go_wp2_with fail
      refine (hFw.out).mono ?_; rintro e w4 ⟨rfl, hT4, hC4⟩
      have hsz4 := hC4.size
      simp only [World.size_alloc] at hsz4
      have b14 := b13.out.keep (hC4.block _ b13.out.lt (by omega))
      have bR4 := bR3.out.keep (hC4.block _ bR3.out.lt (by omega))
      have hK4 := hK3.out.trans hC4 fun i hi => Or.inl hi
      clear hFw
      have r0 := b14.cell 0
      have r1 := b14.cell 1
      have r2 := b14.cell 2
      have r3 := b14.cell 3
      have r4 := b14.cell 4
      have r5 := b14.cell 5
      have r6 := b14.cell 6
      have r7 := b14.cell 7
      have r8 := b14.cell 8
      have r9 := b14.cell 9
      have fr0 := b14.frozen 0
      have fr1 := b14.frozen 1
      have fr2 := b14.frozen 2
      have fr3 := b14.frozen 3
      have fr4 := b14.frozen 4
      have fr5 := b14.frozen 5
      have fr6 := b14.frozen 6
      have fr7 := b14.frozen 7
      have fr8 := b14.frozen 8
      have fr9 := b14.frozen 9
      have sR0 := bR4.cell 0
      have sR1 := bR4.cell 1
      have sR2 := bR4.cell 2
      have sR3 := bR4.cell 3
      have sR4 := bR4.cell 4
      have sR5 := bR4.cell 5
      have sR6 := bR4.cell 6
      have sR7 := bR4.cell 7
      have hl14 := b14.lt
      replace hT4 := Lib.hid hT4
      replace b14 := Lib.hid b14
      replace bR4 := Lib.hid bR4
      replace hK4 := Lib.hid hK4
      replace hC4 := Lib.hid hC4

      go_wp2_with fail
      refine gen_world (α := fun W' => bodyPost _ _ _ _ _ W') (fun W' => Blk W' (w.heap.size + 1) 42 #[.int .i64 0, .int .i64 0, .int .i64 0, .bool false, .string ⟨#[]⟩, .slice none 0 0, .int .i64 0, .slice none 0 0, .int .i64 (T1.at_ : Nat), .int .u64 0] ∧ TapeIn W' tb A cc DD.2 ∧ Chg (fun k => k = tb) w W') ⟨Blk.eq_cs ((((((((((b14.out.set_ 0 _).set_ 1 _).set_ 2 _).set_ 3 _).set_ 4 _).set_ 5 _).set_ 6 _).set_ 7 _).set_ 8 _).set_ 9 _) (by kernel_rfl), ((((((((((hT4.out.set_far (by show tb < w.heap.size + 1; omega) _).set_far (by show tb < w.heap.size + 1; omega) _).set_far (by show tb < w.heap.size + 1; omega) _).set_far (by show tb < w.heap.size + 1; omega) _).set_far (by show tb < w.heap.size + 1; omega) _).set_far (by show tb < w.heap.size + 1; omega) _).set_far (by show tb < w.heap.size + 1; omega) _).set_far (by show tb < w.heap.size + 1; omega) _).set_far (by show tb < w.heap.size + 1; omega) _).set_far (by show tb < w.heap.size + 1; omega) _), ?_⟩ ?_
      · refine Chg.setCell (Chg.setCell (Chg.setCell (Chg.setCell (Chg.setCell (Chg.setCell (Chg.setCell (Chg.setCell (Chg.setCell (Chg.setCell (hK4.out) ?_ _) ?_ _) ?_ _) ?_ _) ?_ _) ?_ _) ?_ _) ?_ _) ?_ _) ?_ _ <;> exact .inr (by show w.heap.size ≤ w.heap.size + 1; omega)
      rintro W' ⟨g1, g2, g3⟩
      have e0 := g1.cell 0
      have e1 := g1.cell 1
      have e2 := g1.cell 2
      have e3 := g1.cell 3
      have e4 := g1.cell 4
      have e5 := g1.cell 5
      have e6 := g1.cell 6
      have e7 := g1.cell 7
      have e8 := g1.cell 8
      have e9 := g1.cell 9
      refine bodyPost_ret (v := .agg #[.int .i64 0, .int .i64 0, .int .i64 0, .bool false, .string ⟨#[]⟩, .slice none 0 0, .int .i64 0, .slice none 0 0, .int .i64 (T1.at_ : Nat), .int .u64 0]) (by simp [results, Try.results17, go_sem, e0, e1, e2, e3, e4, e5, e6, e7, e8, e9]) rfl ?_
      exact ⟨DD.2, _, _, _, _, rfl, g2, g3, hEnd.out⟩
end Go.Proofs.Ytfelkkbgbgnpaaa
