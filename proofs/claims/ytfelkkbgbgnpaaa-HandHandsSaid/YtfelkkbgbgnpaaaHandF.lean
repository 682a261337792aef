/-
  The document's handing in on a tape (layer 29). No condition.
-/
import Derived.Test.YtfelkkbgbgnpaaaHandM
import Derived.Test.YtfelkkbgbgnpaaaReserveZ
namespace Go.Proofs.Ytfelkkbgbgnpaaa
set_option linter.unusedVariables false
open Go.ChangeShapes Go.WideShapes Go.ChangeAt Go.RowKit
open Go.ChangeMaps (setBlock)

set_option maxRecDepth 100000 in
set_option maxHeartbeats 2000000 in
theorem refPut_any {w : World} {tb cc : Nat} {A : Option Addr} {T : PTape} (h : TapeIn w tb A cc T) (c : PCfg) (hc : c.Right) (t r : Int) (ht : 0 ≤ t ∧ t ≤ 9223372036854775807) :
    Calls Try.prog 95 #[.pointer (some ⟨tb, 0, none⟩), c.val, .int .i64 t, .int .u64 r] w fun e w' => e = .returned (.tuple #[]) ∧ TapeIn w' tb A cc (T.doAct ⟨2, 1, ringAt c t, 0, r, ByteArray.empty⟩).2 ∧ Chg (fun k => k = tb) w w' := by
  have hR := fun W => refRing_any c hc t ht W
  have hS := fun W (hW : TapeIn W tb A cc T) => tape_store hW 1 (ringAt c t) r
  rw [show c.val = .agg #[.int .i64 c.cap, .int .i64 c.pins, .int .i64 c.shelves, .int .i64 c.queue, .int .i64 c.watchers, .int .u64 c.seed] from rfl] at hR ⊢
  generalize ringAt c t = ra at *
  have hz : Below w.heap.size w (w.alloc (.cells #[.int .i64 c.cap, .int .i64 c.pins, .int .i64 c.shelves, .int .i64 c.queue, .int .i64 c.watchers, .int .u64 c.seed] 24)) := (Below.refl _ _).alloc (Nat.le_refl _) _
  replace h := Lib.hid h
  replace hR := Lib.hid hR
  replace hS := Lib.hid hS
  replace hz := Lib.hid hz
  go_enter Try.func95, Try.ntmps95
  go_wp2_with fail
  refine (hR.out _).mono ?_; rintro e w1 ⟨rfl, hb⟩
  have hz1 := nx hz.out (Nat.le_refl _) hb
  replace hz1 := Lib.hid hz1
  clear hb
  go_wp2_with fail
  refine (hS.out _ (h.out.below hz1.out)).mono ?_; rintro e w2 ⟨rfl, h2, h3⟩
  have hC := (Chg.of_below hz1.out (fun k => k = tb)).trans h3 fun i hi => Or.inl hi
  clear h3
  replace h2 := Lib.hid h2
  replace hC := Lib.hid hC
  go_wp2_with fail
  exact bodyPost_end (v := .tuple #[]) (results_none (by kernel_rfl) _ _ _) rfl ⟨rfl, h2.out, hC.out⟩
theorem hand_within (c : PCfg) (text : ByteArray) (rec : Int) : Within PRes.act PRes.take PHand.act PHand.take (fun _ r => PHand.settle ⟨c, text, 2, r, false, 0, rec⟩) := by
  have ho : ∀ s : PRes, s.act.2 = true → s.over = false := fun s h => by
    unfold PRes.act PRes.idle at h
    cases hov : s.over with
    | false => rfl
    | true => simp [hov] at h
  refine ⟨fun _ s h => ?_, fun _ s g h => ?_⟩
  · have h1 := ho s h
    simp [PHand.settle, h1, PHand.act]
  · have h1 := ho s h
    simp [PHand.settle, h1, PHand.take]
/-- Behind reserving: the tape is over, or the routine puts, or is done. -/
def HandMid (c : PCfg) (text : ByteArray) (Q : List PGot) (T : PTape) (f : Bool) (t rec : Int) : Prop :=
  (0 ≤ t ∧ t ≤ 9223372036854775807) ∧ ((f = false ∧ EndedA 0 PHand.act PHand.take (newHand c text) Q T) ∨ ∃ s : PHand, FedA 0 PHand.act PHand.take (newHand c text) Q T s ∧ s.cfg = c ∧ s.ticket = t ∧ s.record = rec ∧ s.full = f ∧ s.part = if f then 4 else 3)
theorem hand_mid {c : PCfg} (hc : c.Right) {text : ByteArray} {Q : List PGot} {T T1 T2 : PTape} {gw : Int} {gt : ByteArray} (h0 : T.over = false) (h1 : T.at_ = 0) (h2 : T.act = noAct) (h3 : T.got = Q) (hx : T.doAct ⟨5, 0, 2, 0, 0, text⟩ = (⟨gw, gt⟩, T1)) :
    (T1.over = true ∧ T1.got = Q ∧ (T2 = T1 → HandMid c text Q T2 false 0 gw)) ∨
    (∃ g ∈ Q, g = ⟨gw, gt⟩ ∧ FedA T1.at_ PRes.act PRes.take (newRes c) Q T1 (newRes c) ∧
      (EndedA T1.at_ PRes.act PRes.take (newRes c) Q T2 → HandMid c text Q T2 false 0 gw) ∧
      ∀ s', FedA T1.at_ PRes.act PRes.take (newRes c) Q T2 s' → s'.over = true → 0 ≤ s'.ticket → s'.ticket ≤ 1099511627775 → HandMid c text Q T2 s'.full (if s'.full then 0 else s'.ticket) gw) := by
  have hn : newHand c text = ⟨c, text, 1, newRes c, false, 0, 0⟩ := by unfold newHand; rw [if_pos ((PCfg.right_iff c).2 hc)]
  have F0 := FedA.start (act := PHand.act) (take := PHand.take) (newHand c text) Q T h0 (by omega) h2 h3
  rw [h1] at F0
  have ha : PHand.act (newHand c text) = (⟨5, 0, 2, 0, 0, text⟩, true) := by rw [hn]; rfl
  rcases F0.go2 ha with ⟨g, hg, e, hF⟩ | ⟨e, hE, _⟩
  · right
    rw [hx] at e
    injection e with e1 e2
    rw [← e2] at hF
    refine ⟨g, List.mem_of_getElem? hg, e1.symm, FedA.start _ _ _ hF.over hF.at_ hF.idle hF.got, ?_, ?_⟩
    all_goals
      have hs : PHand.take (newHand c text) g = PHand.settle ⟨c, text, 2, newRes c, false, 0, gw⟩ := by rw [hn, ← e1]; rfl
      rw [hs] at hF
    · intro hE
      exact ⟨by decide, .inl ⟨rfl, hE.lift (hand_within c text gw) hF⟩⟩
    · intro s' hF2 ho h4 h5
      have hF3 := FedA.lift (hand_within c text gw) hF hF2
      cases hfu : s'.full with
      | true =>
        refine ⟨by simp, .inr ⟨_, hF3, ?_⟩⟩
        simp [PHand.settle, ho, hfu]
      | false =>
        refine ⟨by simp; omega, .inr ⟨_, hF3, ?_⟩⟩
        simp [PHand.settle, ho, hfu]
  · left
    rw [hx] at e
    injection e with e1 e2
    rw [← e2] at hE
    exact ⟨hE.over, hE.got, fun e3 => ⟨by decide, .inl ⟨rfl, by rw [e3]; exact hE⟩⟩⟩
/-- What the document's handing in answers, by the routine. -/
def HandPost (s0 : PHand) (Q : List PGot) (w : World) (tb : Nat) (A : Option Addr) (cc : Nat) (e : Ending) (w' : World) : Prop :=
  ∃ T' f t r, e = .returned (.agg #[.bool f, .int .i64 t, .int .u64 r]) ∧ TapeIn w' tb A cc T' ∧
    T'.over = (feed PHand.take s0 Q).act.2 ∧ T'.act = (feed PHand.take s0 Q).act.1 ∧ (T'.over = false → (f, t, r) = (feed PHand.take s0 Q).result.1) ∧ Chg (fun k => k = tb) w w'
theorem PHand.act4 {s : PHand} (h : s.part = 4) : s.act = (noAct, false) := by simp [PHand.act, h]
theorem PHand.take4 {s : PHand} (h : s.part = 4) (g : PGot) : s.take g = s := by simp [PHand.take, h]
theorem hand_ended {s0 : PHand} {Q : List PGot} {T : PTape} (h : EndedA 0 PHand.act PHand.take s0 Q T) : T.over = (feed PHand.take s0 Q).act.2 ∧ T.act = (feed PHand.take s0 Q).act.1 ∧ (T.over = false → False) := by
  have hn := h.next
  rw [List.drop_zero] at hn
  rw [hn]
  exact ⟨h.over, rfl, fun e => by rw [h.over] at e; cases e⟩
theorem hand_fed {s0 s : PHand} {Q : List PGot} {T : PTape} (h : FedA 0 PHand.act PHand.take s0 Q T s) (hp : s.part = 4) : T.over = (feed PHand.take s0 Q).act.2 ∧ T.act = (feed PHand.take s0 Q).act.1 ∧ (s.full, s.ticket, s.record) = (feed PHand.take s0 Q).result.1 := by
  have hd := h.done fun g => PHand.take4 hp g
  rw [hd, PHand.act4 hp]
  exact ⟨h.over, h.idle, by simp [PHand.result, hp]⟩
theorem hand_put {c : PCfg} {text : ByteArray} {Q : List PGot} {T : PTape} {t rec : Int} (h : HandMid c text Q T false t rec) :
    (T.doAct ⟨2, 1, ringAt c t, 0, rec, ByteArray.empty⟩).2.over = (feed PHand.take (newHand c text) Q).act.2 ∧ (T.doAct ⟨2, 1, ringAt c t, 0, rec, ByteArray.empty⟩).2.act = (feed PHand.take (newHand c text) Q).act.1 ∧
      ((T.doAct ⟨2, 1, ringAt c t, 0, rec, ByteArray.empty⟩).2.over = false → (false, t, rec) = (feed PHand.take (newHand c text) Q).result.1) := by
  obtain ⟨_, ⟨_, hE⟩ | ⟨s, hF, h1, h2, h3, h4, h5⟩⟩ := h
  · rw [over_do hE.over]
    obtain ⟨k1, k2, k3⟩ := hand_ended hE
    exact ⟨k1, k2, fun e => (k3 e).elim⟩
  · have h5' : s.part = 3 := h5
    have ha : PHand.act s = (⟨2, 1, ringAt c t, 0, rec, ByteArray.empty⟩, true) := by simp [PHand.act, h5', h1, h2, h3]
    rcases hF.go2 ha with ⟨g, hg, e, hF2⟩ | ⟨e, hE, _⟩
    · rw [e]
      have ht : s.take g = { s with part := 4 } := by simp [PHand.take, h5']
      rw [ht] at hF2
      obtain ⟨k1, k2, k3⟩ := hand_fed hF2 rfl
      exact ⟨k1, k2, fun _ => by rw [← k3]; simp [h4, h2, h3]⟩
    · rw [e]
      obtain ⟨k1, k2, k3⟩ := hand_ended hE
      exact ⟨k1, k2, fun e => (k3 e).elim⟩
theorem hand_full {c : PCfg} {text : ByteArray} {Q : List PGot} {T : PTape} {t rec : Int} (h : HandMid c text Q T true t rec) : T.over = (feed PHand.take (newHand c text) Q).act.2 ∧ T.act = (feed PHand.take (newHand c text) Q).act.1 ∧ (T.over = false → (true, t, rec) = (feed PHand.take (newHand c text) Q).result.1) := by
  obtain ⟨_, ⟨hf, _⟩ | ⟨s, hF, h1, h2, h3, h4, h5⟩⟩ := h
  · cases hf
  · obtain ⟨k1, k2, k3⟩ := hand_fed hF h5
    exact ⟨k1, k2, fun _ => by rw [← k3, h4, h2, h3]⟩
set_option maxRecDepth 100000 in
set_option maxHeartbeats 4000000 in
theorem refHand_any {w : World} {tb cc : Nat} {A : Option Addr} {T : PTape} (h : TapeIn w tb A cc T) (h0 : T.over = false) (h1 : T.at_ = 0) (h2 : T.act = noAct) (c : PCfg) (hc : c.Right) (text : ByteArray) (hok : ∀ g ∈ T.got, g.Ok) :
    Calls Try.prog 38 #[.pointer (some ⟨tb, 0, none⟩), c.val, .string text] w (HandPost (newHand c text) T.got w tb A cc) := by
  generalize hQ : T.got = Q at *
  have hlt := h.blk.lt
  have hz : Below w.heap.size w ((w.alloc (.cells #[.int .i64 c.cap, .int .i64 c.pins, .int .i64 c.shelves, .int .i64 c.queue, .int .i64 c.watchers, .int .u64 c.seed] 24)).alloc (.cells #[.bool false, .int .i64 0, .int .u64 0] 84)) := ((Below.refl _ _).alloc (Nat.le_refl _) _).alloc (by simp) _
  have hM := tape_make (h.below hz) 2 text
  have B0 := (Blk.new w 24 #[.int .i64 c.cap, .int .i64 c.pins, .int .i64 c.shelves, .int .i64 c.queue, .int .i64 c.watchers, .int .u64 c.seed]).alloc (.cells #[.bool false, .int .i64 0, .int .u64 0] 84)
  have B1 := Blk.new (w.alloc (.cells #[.int .i64 c.cap, .int .i64 c.pins, .int .i64 c.shelves, .int .i64 c.queue, .int .i64 c.watchers, .int .u64 c.seed] 24)) 84 #[.bool false, .int .i64 0, .int .u64 0]
  simp only [World.size_alloc] at B1
  have hPut := fun W (T' : PTape) (hT : TapeIn W tb A cc T') (t r : Int) (ht : 0 ≤ t ∧ t ≤ 9223372036854775807) => refPut_any hT c hc t r ht
  have hRes := fun W (T' : PTape) (hT : TapeIn W tb A cc T') (a0 : Nat) (E : PTape → Prop) hEE hst => refReserve_gen (w := W) hT (a0 := a0) (E := E) (Q := Q) c hc hEE hst hok
  rcases hx : T.doAct ⟨5, 0, 2, 0, 0, text⟩ with ⟨⟨gw, gt⟩, T1⟩
  have hmid := fun T2 => hand_mid (T2 := T2) hc h0 h1 h2 hQ hx
  rw [hx] at hM
  simp only at hM
  have hRes2 : ∀ W, TapeIn W tb A cc T1 → Calls Try.prog 94 #[.pointer (some ⟨tb, 0, none⟩), c.val] W fun e w' => ∃ T' f t tr, e = .returned (.tuple #[.agg #[.bool f, .int .i64 t], .int .i64 tr]) ∧ TapeIn w' tb A cc T' ∧ Chg (fun k => k = tb) W w' ∧ HandMid c text Q T' f (if f then 0 else t) gw := by
    intro W hT
    rcases hmid T1 with ⟨ho, hq, _⟩ | ⟨g, hg, e1, hF, _, _⟩
    · refine (hRes W T1 hT _ _ (Ends.same (newRes c) ho hq) (.inl rfl)).mono ?_
      rintro e w' ⟨T', f, t, tr, he, h3, h4, h5⟩
      rcases h5 with ⟨h5, rfl, rfl⟩ | ⟨s', h5, _⟩
      · refine ⟨T', _, _, _, he, h3, h4, ?_⟩
        rcases hmid T' with ⟨_, _, h6⟩ | ⟨_, _, _, h6, _, _⟩
        · exact h6 h5
        · exact absurd h6.over (by rw [ho]; decide)
      · exact h5.not_far.elim
    · refine (hRes W T1 hT _ _ (Ends.ended _ _ _) (.inr hF)).mono ?_
      rintro e w' ⟨T', f, t, tr, he, h3, h4, h5⟩
      refine ⟨T', _, _, _, he, h3, h4, ?_⟩
      rcases hmid T' with ⟨h6, _, _⟩ | ⟨_, _, _, _, h6, h7⟩
      · exact absurd h6 (by rw [hF.over]; decide)
      · rcases h5 with ⟨h5, rfl, rfl⟩ | ⟨s', h5, h8, rfl, rfl, h9, h10⟩
        · exact h6 h5
        · exact h7 s' h5 h8 h9 h10
  have hfull := fun T2 t => hand_full (c := c) (text := text) (Q := Q) (T := T2) (t := t) (rec := gw)
  have hput := fun T2 t => hand_put (c := c) (text := text) (Q := Q) (T := T2) (t := t) (rec := gw)
  rw [show c.val = .agg #[.int .i64 c.cap, .int .i64 c.pins, .int .i64 c.shelves, .int .i64 c.queue, .int .i64 c.watchers, .int .u64 c.seed] from rfl] at *
  clear hmid hRes hx h0 h1 h2
  replace h := Lib.hid h
  replace hz := Lib.hid hz
  replace hM := Lib.hid hM
  replace B0 := Lib.hid B0
  replace B1 := Lib.hid B1
  replace hPut := Lib.hid hPut
  replace hRes2 := Lib.hid hRes2
  replace hfull := Lib.hid hfull
  replace hput := Lib.hid hput
  replace hQ := Lib.hid hQ
  go_enter Try.func38, Try.ntmps38
  go_wp2_with fail
  refine (hM.out).mono ?_; rintro e w1 ⟨rfl, hT1, hC1⟩
  have hsz := hC1.size
  simp only [World.size_alloc] at hsz
  have b0 := B0.out.keep (hC1.block w.heap.size (by simp; omega) (by omega))
  have b1 := B1.out.keep (hC1.block (w.heap.size + 1) (by simp) (by omega))
  have hK1 := (Chg.of_below hz.out (fun k => k = tb)).trans hC1 fun i hi => Or.inl hi
  have c0 := b0.cell 0
  have c1 := b0.cell 1
  have c2 := b0.cell 2
  have c3 := b0.cell 3
  have c4 := b0.cell 4
  have c5 := b0.cell 5
  have hb0l := b0.lt
  replace hT1 := Lib.hid hT1
  replace hC1 := Lib.hid hC1
  replace b0 := Lib.hid b0
  replace b1 := Lib.hid b1
  replace hK1 := Lib.hid hK1
  go_wp2_with fail
  refine (hRes2.out _ hT1.out).mono ?_; rintro e w2 ⟨T2, f, t, tr, rfl, hT2, hC2, hMid⟩
  have hsz2 := hC2.size
  have b02 := (b0.out.keep (hC2.block _ b0.out.lt (by omega))).alloc (.cells #[.bool f, .int .i64 t] 169)
  have b12 := (b1.out.keep (hC2.block _ b1.out.lt (by omega))).alloc (.cells #[.bool f, .int .i64 t] 169)
  have b22 := Blk.new w2 169 #[.bool f, .int .i64 t]
  have hK2 : Chg (fun k => k = tb) w (w2.alloc (.cells #[.bool f, .int .i64 t] 169)) := (hK1.out.trans hC2 fun i hi => Or.inl hi).alloc _
  have hT2' := hT2.below ((Below.refl w2.heap.size w2).alloc (Nat.le_refl _) (.cells #[.bool f, .int .i64 t] 169))
  have hlt1 := b1.out.lt
  clear c0 c1 c2 c3 c4 c5 hC2 hT2
  cases f with
  | true =>
    have hfin := hfull.out T2 _ hMid
    have r0 := b12.cell 0
    have r1 := b12.cell 1
    have r2 := b12.cell 2
    have q0 := b12.frozen 0
    have q1 := b12.frozen 1
    have q2 := b12.frozen 2
    replace hMid := Lib.hid hMid
    replace hfin := Lib.hid hfin
    replace b12 := Lib.hid b12
    replace b02 := Lib.hid b02
    replace b22 := Lib.hid b22
    replace hK2 := Lib.hid hK2
    replace hT2' := Lib.hid hT2'
    go_wp2_with fail
    refine gen_world (α := fun W' => bodyPost _ _ _ _ _ W') (fun W' => Blk W' (w.heap.size + 1) 84 #[.bool true, .int .i64 0, .int .u64 gw] ∧ TapeIn W' tb A cc T2 ∧ Chg (fun k => k = tb) w W') ⟨Blk.eq_cs (((b12.out.set_ 0 _).set_ 1 _).set_ 2 _) rfl, ((hT2'.out.set_far (by show tb < w.heap.size + 1; omega) _).set_far (by show tb < w.heap.size + 1; omega) _).set_far (by show tb < w.heap.size + 1; omega) _, ?_⟩ ?_
    · refine Chg.setCell (Chg.setCell (Chg.setCell hK2.out ?_ _) ?_ _) ?_ _ <;> exact .inr (by show w.heap.size ≤ w.heap.size + 1; omega)
    rintro W' ⟨g1, g2, g3⟩
    have e0 := g1.cell 0
    have e1 := g1.cell 1
    have e2 := g1.cell 2
    refine bodyPost_ret (v := .agg #[.bool true, .int .i64 0, .int .u64 gw]) (by simp [results, Try.results38, go_sem, e0, e1, e2]) rfl ?_
    exact ⟨T2, _, _, _, rfl, g2, hfin.out.1, hfin.out.2.1, hfin.out.2.2, g3⟩
  | false =>
    have hfin := hput.out T2 _ hMid
    have hP := fun W hW => hPut.out W T2 hW t gw hMid.1
    have v0 := b02.cell 0
    have v1 := b02.cell 1
    have v2 := b02.cell 2
    have v3 := b02.cell 3
    have v4 := b02.cell 4
    have v5 := b02.cell 5
    simp only [Bool.false_eq_true, if_false] at hfin
    generalize ringAt c t = ra at *
    generalize T2.doAct ⟨2, 1, ra, 0, gw, ByteArray.empty⟩ = D at *
    replace hMid := Lib.hid hMid
    replace hfin := Lib.hid hfin
    replace hP := Lib.hid hP
    replace b12 := Lib.hid b12
    replace b02 := Lib.hid b02
    replace b22 := Lib.hid b22
    replace hK2 := Lib.hid hK2
    replace hT2' := Lib.hid hT2'
    go_wp2_with fail
    refine (hP.out _ hT2'.out).mono ?_; rintro e w3 ⟨rfl, hT3, hC3⟩
    have hsz3 := hC3.size
    simp only [World.size_alloc] at hsz3
    have b13 := b12.out.keep (hC3.block _ b12.out.lt (by omega))
    have b23 := b22.out.keep (hC3.block _ b22.out.lt (by omega))
    have hK3 := hK2.out.trans hC3 fun i hi => Or.inl hi
    have u1 := b23.cell 1
    have r0 := b13.cell 0
    have r1 := b13.cell 1
    have r2 := b13.cell 2
    have q0 := b13.frozen 0
    have q1 := b13.frozen 1
    have q2 := b13.frozen 2
    clear v0 v1 v2 v3 v4 v5 hC3
    replace b13 := Lib.hid b13
    replace b23 := Lib.hid b23
    replace hK3 := Lib.hid hK3
    replace hT3 := Lib.hid hT3
    go_wp2_with fail
    refine gen_world (α := fun W' => bodyPost _ _ _ _ _ W') (fun W' => Blk W' (w.heap.size + 1) 84 #[.bool false, .int .i64 t, .int .u64 gw] ∧ TapeIn W' tb A cc D.2 ∧ Chg (fun k => k = tb) w W') ⟨Blk.eq_cs (((b13.out.set_ 0 _).set_ 1 _).set_ 2 _) rfl, ((hT3.out.set_far (by show tb < w.heap.size + 1; omega) _).set_far (by show tb < w.heap.size + 1; omega) _).set_far (by show tb < w.heap.size + 1; omega) _, ?_⟩ ?_
    · refine Chg.setCell (Chg.setCell (Chg.setCell hK3.out ?_ _) ?_ _) ?_ _ <;> exact .inr (by show w.heap.size ≤ w.heap.size + 1; omega)
    rintro W' ⟨g1, g2, g3⟩
    have e0 := g1.cell 0
    have e1 := g1.cell 1
    have e2 := g1.cell 2
    refine bodyPost_ret (v := .agg #[.bool false, .int .i64 t, .int .u64 gw]) (by simp [results, Try.results38, go_sem, e0, e1, e2]) rfl ?_
    exact ⟨D.2, _, _, _, rfl, g2, hfin.out.1, hfin.out.2.1, hfin.out.2.2, g3⟩
end Go.Proofs.Ytfelkkbgbgnpaaa
