import Derived.Test.YtfelkkbgbgnpaaaHandM
import Derived.Test.YtfelkkbgbgnpaaaReserveZ
import Derived.Test.YtfelkkbgbgnpaaaHandP
import Derived.Test.YtfelkkbgbgnpaaaCtlO
/-
  The document's handing in on a tape (layer 29). No condition.
-/
namespace Go.Proofs.Ytfelkkbgbgnpaaa
set_option linter.unusedVariables false
open Go.ChangeShapes Go.WideShapes Go.ChangeAt Go.RowKit
open Go.ChangeMaps (setBlock)

set_option maxRecDepth 100000 in
set_option maxHeartbeats 2000000 in
theorem refPut_any {w : World} {tb cc : Nat} {A : Option Addr} {T : PTape} (h : TapeIn w tb A cc T) (c : PCfg) (hc : c.Right) (t r : Int) (ht : 0 ≤ t ∧ t ≤ 9223372036854775807) :
    Calls Try.prog 95 #[.pointer (some ⟨tb, 0, none⟩), c.val, .int .i64 t, .int .u64 r] w fun e w' => e = .returned (.tuple #[]) ∧ TapeIn w' tb A cc (T.doAct ⟨2, 1, ringAt c t, 0, r, ByteArray.empty⟩).2 ∧ Chg (fun k => k = tb) w w' := by
  have hR := fun W => refRing_any c hc t ht W
  have hS := fun W (hW : TapeIn W tb A cc T) => tape_store hW 1 (ringAt c t) r
  rw [show c.val = .agg #[.int .i64 c.cap, .int .i64 c.pins, .int .i64 c.shelves, .int .i64 c.queue, .int .i64 c.watchers, .int .u64 c.seed] from rfl] at hR ⊢
  generalize ringAt c t = ra at *
  have hz : Below w.heap.size w (w.alloc (.cells #[.int .i64 c.cap, .int .i64 c.pins, .int .i64 c.shelves, .int .i64 c.queue, .int .i64 c.watchers, .int .u64 c.seed] 24)) := (Below.refl _ _).alloc (Nat.le_refl _) _
  replace h := Lib.hid h
  replace hR := Lib.hid hR
  replace hS := Lib.hid hS
  replace hz := Lib.hid hz
  go_enter Try.func95, Try.ntmps95
  go_wp2_with fail
  refine (hR.out _).mono ?_; rintro e w1 ⟨rfl, hb⟩
  have hz1 := nx hz.out (Nat.le_refl _) hb
  replace hz1 := Lib.hid hz1
  clear hb
  go_wp2_with fail
  refine (hS.out _ (h.out.below hz1.out)).mono ?_; rintro e w2 ⟨rfl, h2, h3⟩
  have hC := (Chg.of_below hz1.out (fun k => k = tb)).trans h3 fun i hi => Or.inl hi
  clear h3
  replace h2 := Lib.hid h2
  replace hC := Lib.hid hC
  go_wp2_with fail
  exact bodyPost_end (v := .tuple #[]) (results_none (by kernel_rfl) _ _ _) rfl ⟨rfl, h2.out, hC.out⟩
theorem hand_within (c : PCfg) (text : ByteArray) (rec : Int) : Within PRes.act PRes.take PHand.act PHand.take (fun _ r => PHand.settle ⟨c, text, 2, r, false, 0, rec⟩) := by
  have ho : ∀ s : PRes, s.act.2 = true → s.over = false := fun s h => by
    unfold PRes.act PRes.idle at h
    cases hov : s.over with
    | false => rfl
    | true => simp [hov] at h
  refine ⟨fun _ s h => ?_, fun _ s g h => ?_⟩
  · have h1 := ho s h
    simp [PHand.settle, h1, PHand.act]
  · have h1 := ho s h
    simp [PHand.settle, h1, PHand.take]
/-- Behind reserving: the tape is over, or the routine puts, or is done. -/
def HandMid (c : PCfg) (text : ByteArray) (Q : List PGot) (T : PTape) (f : Bool) (t rec : Int) : Prop :=
  (0 ≤ t ∧ t ≤ 9223372036854775807) ∧ ((f = false ∧ EndedA 0 PHand.act PHand.take (newHand c text) Q T) ∨ ∃ s : PHand, FedA 0 PHand.act PHand.take (newHand c text) Q T s ∧ s.cfg = c ∧ s.ticket = t ∧ s.record = rec ∧ s.full = f ∧ s.part = if f then 4 else 3)
theorem hand_mid {c : PCfg} (hc : c.Right) {text : ByteArray} {Q : List PGot} {T T1 T2 : PTape} {gw : Int} {gt : ByteArray} (h0 : T.over = false) (h1 : T.at_ = 0) (h2 : T.act = noAct) (h3 : T.got = Q) (hx : T.doAct ⟨5, 0, 2, 0, 0, text⟩ = (⟨gw, gt⟩, T1)) :
    (T1.over = true ∧ T1.got = Q ∧ (T2 = T1 → HandMid c text Q T2 false 0 gw)) ∨
    (∃ g ∈ Q, g = ⟨gw, gt⟩ ∧ FedA T1.at_ PRes.act PRes.take (newRes c) Q T1 (newRes c) ∧
      (EndedA T1.at_ PRes.act PRes.take (newRes c) Q T2 → HandMid c text Q T2 false 0 gw) ∧
      ∀ s', FedA T1.at_ PRes.act PRes.take (newRes c) Q T2 s' → s'.over = true → 0 ≤ s'.ticket → s'.ticket ≤ 1099511627775 → HandMid c text Q T2 s'.full (if s'.full then 0 else s'.ticket) gw) := by
  have hn : newHand c text = ⟨c, text, 1, newRes c, false, 0, 0⟩ := by unfold newHand; rw [if_pos ((PCfg.right_iff c).2 hc)]
  have F0 := FedA.start (act := PHand.act) (take := PHand.take) (newHand c text) Q T h0 (by omega) h2 h3
  rw [h1] at F0
  have ha : PHand.act (newHand c text) = (⟨5, 0, 2, 0, 0, text⟩, true) := by rw [hn]; rfl
  rcases F0.go2 ha with ⟨g, hg, e, hF⟩ | ⟨e, hE, _⟩
  · right
    rw [hx] at e
    injection e with e1 e2
    rw [← e2] at hF
    refine ⟨g, List.mem_of_getElem? hg, e1.symm, FedA.start _ _ _ hF.over hF.at_ hF.idle hF.got, ?_, ?_⟩
    all_goals
      have hs : PHand.take (newHand c text) g = PHand.settle ⟨c, text, 2, newRes c, false, 0, gw⟩ := by rw [hn, ← e1]; rfl
      rw [hs] at hF
    · intro hE
      exact ⟨by decide, .inl ⟨rfl, hE.lift (hand_within c text gw) hF⟩⟩
    · intro s' hF2 ho h4 h5
      have hF3 := FedA.lift (hand_within c text gw) hF hF2
      cases hfu : s'.full with
      | true =>
        refine ⟨by simp, .inr ⟨_, hF3, ?_⟩⟩
        simp [PHand.settle, ho, hfu]
      | false =>
        refine ⟨by simp; omega, .inr ⟨_, hF3, ?_⟩⟩
        simp [PHand.settle, ho, hfu]
  · left
    rw [hx] at e
    injection e with e1 e2
    rw [← e2] at hE
    exact ⟨hE.over, hE.got, fun e3 => ⟨by decide, .inl ⟨rfl, by rw [e3]; exact hE⟩⟩⟩
/-- What the document's handing in answers, by the routine. -/
def HandPost (s0 : PHand) (Q : List PGot) (w : World) (tb : Nat) (A : Option Addr) (cc : Nat) (e : Ending) (w' : World) : Prop :=
  ∃ T' f t r, e = .returned (.agg #[.bool f, .int .i64 t, .int .u64 r]) ∧ TapeIn w' tb A cc T' ∧
    T'.over = (feed PHand.take s0 Q).act.2 ∧ T'.act = (feed PHand.take s0 Q).act.1 ∧ (T'.over = false → (f, t, r) = (feed PHand.take s0 Q).result.1) ∧ Chg (fun k => k = tb) w w'
theorem PHand.act4 {s : PHand} (h : s.part = 4) : s.act = (noAct, false) := by simp [PHand.act, h]
theorem PHand.take4 {s : PHand} (h : s.part = 4) (g : PGot) : s.take g = s := by simp [PHand.take, h]
theorem hand_ended {s0 : PHand} {Q : List PGot} {T : PTape} (h : EndedA 0 PHand.act PHand.take s0 Q T) : T.over = (feed PHand.take s0 Q).act.2 ∧ T.act = (feed PHand.take s0 Q).act.1 ∧ (T.over = false → False) := by
  have hn := h.next
  rw [List.drop_zero] at hn
  rw [hn]
  exact ⟨h.over, rfl, fun e => by rw [h.over] at e; cases e⟩
theorem hand_fed {s0 s : PHand} {Q : List PGot} {T : PTape} (h : FedA 0 PHand.act PHand.take s0 Q T s) (hp : s.part = 4) : T.over = (feed PHand.take s0 Q).act.2 ∧ T.act = (feed PHand.take s0 Q).act.1 ∧ (s.full, s.ticket, s.record) = (feed PHand.take s0 Q).result.1 := by
  have hd := h.done fun g => PHand.take4 hp g
  rw [hd, PHand.act4 hp]
  exact ⟨h.over, h.idle, by simp [PHand.result, hp]⟩
theorem hand_put {c : PCfg} {text : ByteArray} {Q : List PGot} {T : PTape} {t rec : Int} (h : HandMid c text Q T false t rec) :
    (T.doAct ⟨2, 1, ringAt c t, 0, rec, ByteArray.empty⟩).2.over = (feed PHand.take (newHand c text) Q).act.2 ∧ (T.doAct ⟨2, 1, ringAt c t, 0, rec, ByteArray.empty⟩).2.act = (feed PHand.take (newHand c text) Q).act.1 ∧
      ((T.doAct ⟨2, 1, ringAt c t, 0, rec, ByteArray.empty⟩).2.over = false → (false, t, rec) = (feed PHand.take (newHand c text) Q).result.1) := by
  obtain ⟨_, ⟨_, hE⟩ | ⟨s, hF, h1, h2, h3, h4, h5⟩⟩ := h
  · rw [over_do hE.over]
    obtain ⟨k1, k2, k3⟩ := hand_ended hE
    exact ⟨k1, k2, fun e => (k3 e).elim⟩
  · have h5' : s.part = 3 := h5
    have ha : PHand.act s = (⟨2, 1, ringAt c t, 0, rec, ByteArray.empty⟩, true) := by simp [PHand.act, h5', h1, h2, h3]
    rcases hF.go2 ha with ⟨g, hg, e, hF2⟩ | ⟨e, hE, _⟩
    · rw [e]
      have ht : s.take g = { s with part := 4 } := by simp [PHand.take, h5']
      rw [ht] at hF2
      obtain ⟨k1, k2, k3⟩ := hand_fed hF2 rfl
      exact ⟨k1, k2, fun _ => by rw [← k3]; simp [h4, h2, h3]⟩
    · rw [e]
      obtain ⟨k1, k2, k3⟩ := hand_ended hE
      exact ⟨k1, k2, fun e => (k3 e).elim⟩
theorem hand_full {c : PCfg} {text : ByteArray} {Q : List PGot} {T : PTape} {t rec : Int} (h : HandMid c text Q T true t rec) : T.over = (feed PHand.take (newHand c text) Q).act.2 ∧ T.act = (feed PHand.take (newHand c text) Q).act.1 ∧ (T.over = false → (true, t, rec) = (feed PHand.take (newHand c text) Q).result.1) := by
  obtain ⟨_, ⟨hf, _⟩ | ⟨s, hF, h1, h2, h3, h4, h5⟩⟩ := h
  · cases hf
  · obtain ⟨k1, k2, k3⟩ := hand_fed hF h5
    exact ⟨k1, k2, fun _ => by rw [← k3, h4, h2, h3]⟩
set_option maxRecDepth 100000 in
set_option maxHeartbeats 4000000 in
theorem refHand_any {w : World} {tb cc : Nat} {A : Option Addr} {T : PTape} (h : TapeIn w tb A cc T) (h0 : T.over = false) (h1 : T.at_ = 0) (h2 : T.act = noAct) (c : PCfg) (hc : c.Right) (text : ByteArray) (hok : ∀ g ∈ T.got, g.Ok) :
    Calls Try.prog 38 #[.pointer (some ⟨tb, 0, none⟩), c.val, .string text] w (HandPost (newHand c text) T.got w tb A cc) := by
  generalize hQ : T.got = Q at *
  have hlt := h.blk.lt
  have hz : Below w.heap.size w ((w.alloc (.cells #[.int .i64 c.cap, .int .i64 c.pins, .int .i64 c.shelves, .int .i64 c.queue, .int .i64 c.watchers, .int .u64 c.seed] 24)).alloc (.cells #[.bool false, .int .i64 0, .int .u64 0] 84)) := ((Below.refl _ _).alloc (Nat.le_refl _) _).alloc (by simp) _
  have hM := tape_make (h.below hz) 2 text
  have B0 := (Blk.new w 24 #[.int .i64 c.cap, .int .i64 c.pins, .int .i64 c.shelves, .int .i64 c.queue, .int .i64 c.watchers, .int .u64 c.seed]).alloc (.cells #[.bool false, .int .i64 0, .int .u64 0] 84)
  have B1 := Blk.new (w.alloc (.cells #[.int .i64 c.cap, .int .i64 c.pins, .int .i64 c.shelves, .int .i64 c.queue, .int .i64 c.watchers, .int .u64 c.seed] 24)) 84 #[.bool false, .int .i64 0, .int .u64 0]
  simp only [World.size_alloc] at B1
  have hPut := fun W (T' : PTape) (hT : TapeIn W tb A cc T') (t r : Int) (ht : 0 ≤ t ∧ t ≤ 9223372036854775807) => refPut_any hT c hc t r ht
  have hRes := fun W (T' : PTape) (hT : TapeIn W tb A cc T') (a0 : Nat) (E : PTape → Prop) hEE hst => refReserve_gen (w := W) hT (a0 := a0) (E := E) (Q := Q) c hc hEE hst hok
  rcases hx : T.doAct ⟨5, 0, 2, 0, 0, text⟩ with ⟨⟨gw, gt⟩, T1⟩
  have hmid := fun T2 => hand_mid (T2 := T2) hc h0 h1 h2 hQ hx
  rw [hx] at hM
  simp only at hM
  have hRes2 : ∀ W, TapeIn W tb A cc T1 → Calls Try.prog 94 #[.pointer (some ⟨tb, 0, none⟩), c.val] W fun e w' => ∃ T' f t tr, e = .returned (.tuple #[.agg #[.bool f, .int .i64 t], .int .i64 tr]) ∧ TapeIn w' tb A cc T' ∧ Chg (fun k => k = tb) W w' ∧ HandMid c text Q T' f (if f then 0 else t) gw := by
    intro W hT
    rcases hmid T1 with ⟨ho, hq, _⟩ | ⟨g, hg, e1, hF, _, _⟩
    · refine (hRes W T1 hT _ _ (Ends.same (newRes c) ho hq) (.inl rfl)).mono ?_
      rintro e w' ⟨T', f, t, tr, he, h3, h4, h5⟩
      rcases h5 with ⟨h5, rfl, rfl⟩ | ⟨s', h5, _⟩
      · refine ⟨T', _, _, _, he, h3, h4, ?_⟩
        rcases hmid T' with ⟨_, _, h6⟩ | ⟨_, _, _, h6, _, _⟩
        · exact h6 h5
        · exact absurd h6.over (by rw [ho]; decide)
      · exact h5.not_far.elim
    · refine (hRes W T1 hT _ _ (Ends.ended _ _ _) (.inr hF)).mono ?_
      rintro e w' ⟨T', f, t, tr, he, h3, h4, h5⟩
      refine ⟨T', _, _, _, he, h3, h4, ?_⟩
      rcases hmid T' with ⟨h6, _, _⟩ | ⟨_, _, _, _, h6, h7⟩
      · exact absurd h6 (by rw [hF.over]; decide)
      · rcases h5 with ⟨h5, rfl, rfl⟩ | ⟨s', h5, h8, rfl, rfl, h9, h10⟩
        · exact h6 h5
        · exact h7 s' h5 h8 h9 h10
  have hfull := fun T2 t => hand_full (c := c) (text := text) (Q := Q) (T := T2) (t := t) (rec := gw)
  have hput := fun T2 t => hand_put (c := c) (text := text) (Q := Q) (T := T2) (t := t) (rec := gw)
  rw [show c.val = .agg #[.int .i64 c.cap, .int .i64 c.pins, .int .i64 c.shelves, .int .i64 c.queue, .int .i64 c.watchers, .int .u64 c.seed] from rfl] at *
  clear hmid hRes hx h0 h1 h2
  replace h := Lib.hid h
  replace hz := Lib.hid hz
  replace hM := Lib.hid hM
  replace B0 := Lib.hid B0
  replace B1 := Lib.hid B1
  replace hPut := Lib.hid hPut
  replace hRes2 := Lib.hid hRes2
  replace hfull := Lib.hid hfull
  replace hput := Lib.hid hput
  replace hQ := Lib.hid hQ
  go_enter Try.func38, Try.ntmps38
  go_wp2_with fail
  refine (hM.out).mono ?_; rintro e w1 ⟨rfl, hT1, hC1⟩
  have hsz := hC1.size
  simp only [World.size_alloc] at hsz
  have b0 := B0.out.keep (hC1.block w.heap.size (by simp; omega) (by omega))
  have b1 := B1.out.keep (hC1.block (w.heap.size + 1) (by simp) (by omega))
  have hK1 := (Chg.of_below hz.out (fun k => k = tb)).trans hC1 fun i hi => Or.inl hi
  have c0 := b0.cell 0
  have c1 := b0.cell 1
  have c2 := b0.cell 2
  have c3 := b0.cell 3
  have c4 := b0.cell 4
  have c5 := b0.cell 5
  have hb0l := b0.lt
  replace hT1 := Lib.hid hT1
  replace hC1 := Lib.hid hC1
  replace b0 := Lib.hid b0
  replace b1 := Lib.hid b1
  replace hK1 := Lib.hid hK1
  go_wp2_with fail
  refine (hRes2.out _ hT1.out).mono ?_; rintro e w2 ⟨T2, f, t, tr, rfl, hT2, hC2, hMid⟩
  have hsz2 := hC2.size
  have b02 := (b0.out.keep (hC2.block _ b0.out.lt (by omega))).alloc (.cells #[.bool f, .int .i64 t] 169)
  have b12 := (b1.out.keep (hC2.block _ b1.out.lt (by omega))).alloc (.cells #[.bool f, .int .i64 t] 169)
  have b22 := Blk.new w2 169 #[.bool f, .int .i64 t]
  have hK2 : Chg (fun k => k = tb) w (w2.alloc (.cells #[.bool f, .int .i64 t] 169)) := (hK1.out.trans hC2 fun i hi => Or.inl hi).alloc _
  have hT2' := hT2.below ((Below.refl w2.heap.size w2).alloc (Nat.le_refl _) (.cells #[.bool f, .int .i64 t] 169))
  have hlt1 := b1.out.lt
  clear c0 c1 c2 c3 c4 c5 hC2 hT2
  cases f with
  | true =>
    have hfin := hfull.out T2 _ hMid
    have r0 := b12.cell 0
    have r1 := b12.cell 1
    have r2 := b12.cell 2
    have q0 := b12.frozen 0
    have q1 := b12.frozen 1
    have q2 := b12.frozen 2
    replace hMid := Lib.hid hMid
    replace hfin := Lib.hid hfin
    replace b12 := Lib.hid b12
    replace b02 := Lib.hid b02
    replace b22 := Lib.hid b22
    replace hK2 := Lib.hid hK2
    replace hT2' := Lib.hid hT2'
    go_wp2_with fail
    refine gen_world (α := fun W' => bodyPost _ _ _ _ _ W') (fun W' => Blk W' (w.heap.size + 1) 84 #[.bool true, .int .i64 0, .int .u64 gw] ∧ TapeIn W' tb A cc T2 ∧ Chg (fun k => k = tb) w W') ⟨Blk.eq_cs (((b12.out.set_ 0 _).set_ 1 _).set_ 2 _) rfl, ((hT2'.out.set_far (by show tb < w.heap.size + 1; omega) _).set_far (by show tb < w.heap.size + 1; omega) _).set_far (by show tb < w.heap.size + 1; omega) _, ?_⟩ ?_
    · refine Chg.setCell (Chg.setCell (Chg.setCell hK2.out ?_ _) ?_ _) ?_ _ <;> exact .inr (by show w.heap.size ≤ w.heap.size + 1; omega)
    rintro W' ⟨g1, g2, g3⟩
    have e0 := g1.cell 0
    have e1 := g1.cell 1
    have e2 := g1.cell 2
    refine bodyPost_ret (v := .agg #[.bool true, .int .i64 0, .int .u64 gw]) (by simp [results, Try.results38, go_sem, e0, e1, e2]) rfl ?_
    exact ⟨T2, _, _, _, rfl, g2, hfin.out.1, hfin.out.2.1, hfin.out.2.2, g3⟩
  | false =>
    have hfin := hput.out T2 _ hMid
    have hP := fun W hW => hPut.out W T2 hW t gw hMid.1
    have v0 := b02.cell 0
    have v1 := b02.cell 1
    have v2 := b02.cell 2
    have v3 := b02.cell 3
    have v4 := b02.cell 4
    have v5 := b02.cell 5
    simp only [Bool.false_eq_true, if_false] at hfin
    generalize ringAt c t = ra at *
    generalize T2.doAct ⟨2, 1, ra, 0, gw, ByteArray.empty⟩ = D at *
    replace hMid := Lib.hid hMid
    replace hfin := Lib.hid hfin
    replace hP := Lib.hid hP
    replace b12 := Lib.hid b12
    replace b02 := Lib.hid b02
    replace b22 := Lib.hid b22
    replace hK2 := Lib.hid hK2
    replace hT2' := Lib.hid hT2'
    go_wp2_with fail
    refine (hP.out _ hT2'.out).mono ?_; rintro e w3 ⟨rfl, hT3, hC3⟩
    have hsz3 := hC3.size
    simp only [World.size_alloc] at hsz3
    have b13 := b12.out.keep (hC3.block _ b12.out.lt (by omega))
    have b23 := b22.out.keep (hC3.block _ b22.out.lt (by omega))
    have hK3 := hK2.out.trans hC3 fun i hi => Or.inl hi
    have u1 := b23.cell 1
    have r0 := b13.cell 0
    have r1 := b13.cell 1
    have r2 := b13.cell 2
    have q0 := b13.frozen 0
    have q1 := b13.frozen 1
    have q2 := b13.frozen 2
    clear v0 v1 v2 v3 v4 v5 hC3
    replace b13 := Lib.hid b13
    replace b23 := Lib.hid b23
    replace hK3 := Lib.hid hK3
    replace hT3 := Lib.hid hT3
    go_wp2_with fail
    refine gen_world (α := fun W' => bodyPost _ _ _ _ _ W') (fun W' => Blk W' (w.heap.size + 1) 84 #[.bool false, .int .i64 t, .int .u64 gw] ∧ TapeIn W' tb A cc D.2 ∧ Chg (fun k => k = tb) w W') ⟨Blk.eq_cs (((b13.out.set_ 0 _).set_ 1 _).set_ 2 _) rfl, ((hT3.out.set_far (by show tb < w.heap.size + 1; omega) _).set_far (by show tb < w.heap.size + 1; omega) _).set_far (by show tb < w.heap.size + 1; omega) _, ?_⟩ ?_
    · refine Chg.setCell (Chg.setCell (Chg.setCell hK3.out ?_ _) ?_ _) ?_ _ <;> exact .inr (by show w.heap.size ≤ w.heap.size + 1; omega)
    rintro W' ⟨g1, g2, g3⟩
    have e0 := g1.cell 0
    have e1 := g1.cell 1
    have e2 := g1.cell 2
    refine bodyPost_ret (v := .agg #[.bool false, .int .i64 t, .int .u64 gw]) (by simp [results, Try.results38, go_sem, e0, e1, e2]) rfl ?_
    exact ⟨D.2, _, _, _, rfl, g2, hfin.out.1, hfin.out.2.1, hfin.out.2.2, g3⟩
end Go.Proofs.Ytfelkkbgbgnpaaa

/-
  The examples of the law of handing in (layer 29). No condition.
-/
namespace Go.Proofs.Ytfelkkbgbgnpaaa
set_option linter.unusedVariables false
open Go.ChangeShapes Go.WideShapes Go.ChangeAt Go.RowKit
open Go.ChangeMaps (setBlock)

theorem tinyVH : tinyC.val = .agg #[.int .i64 2, .int .i64 2, .int .i64 3, .int .i64 2, .int .i64 1, .int .u64 0] := rfl
set_option maxHeartbeats 1000000 in
theorem planRing_neg (c : PCfg) (h : c.Right) (w : World) : Calls Try.prog 42 #[c.val, .int .i64 (-1)] w fun e w' => e = .returned (.int .i64 (-1)) ∧ Below w.heap.size w w' := by
  have hR := fun W => right_cfg c W
  rw [(PCfg.right_iff c).2 h] at hR
  obtain ⟨a, b, s, q, t, z⟩ := c
  rw [show PCfg.val ⟨a, b, s, q, t, z⟩ = .agg #[.int .i64 a, .int .i64 b, .int .i64 s, .int .i64 q, .int .i64 t, .int .u64 z] from rfl] at *
  have hz : Below w.heap.size w (w.alloc (.cells #[.int .i64 a, .int .i64 b, .int .i64 s, .int .i64 q, .int .i64 t, .int .u64 z] 24)) := (Below.refl _ _).alloc (Nat.le_refl _) _
  replace hz := Lib.hid hz
  replace hR := Lib.hid hR
  replace h := Lib.hid h
  go_enter Try.func42, Try.ntmps42
  go_wp2_with fail
  refine (hR.out _).mono ?_; rintro e w1 ⟨rfl, hb⟩
  have hz1 := nx hz.out (Nat.le_refl _) hb
  clear hb
  replace hz1 := Lib.hid hz1
  go_wp2_with fail
  go_ret
  exact ⟨rfl, hz1.out⟩
set_option maxRecDepth 100000 in
set_option maxHeartbeats 2000000 in
theorem handPut_neg (c : PCfg) (h : c.Right) (record : Int) (w : World) : Calls Try.prog 89 #[c.val, .int .i64 (-1), .int .u64 record] w fun e w' => e = .returned (.agg #[.int .i64 0, .int .u64 0, .int .i64 0, .int .u64 0, .int .u64 0, .string ⟨#[]⟩]) ∧ Below w.heap.size w w' := by
  have hR := fun W => planRing_neg c h W
  obtain ⟨a, b, s, q, t, z⟩ := c
  rw [show PCfg.val ⟨a, b, s, q, t, z⟩ = .agg #[.int .i64 a, .int .i64 b, .int .i64 s, .int .i64 q, .int .i64 t, .int .u64 z] from rfl] at *
  have hz : Below w.heap.size w ((w.alloc (.cells #[.int .i64 a, .int .i64 b, .int .i64 s, .int .i64 q, .int .i64 t, .int .u64 z] 24)).alloc (.cells #[.int .i64 0, .int .u64 0, .int .i64 0, .int .u64 0, .int .u64 0, .string ⟨#[]⟩] 31)) := ((Below.refl _ _).alloc (Nat.le_refl _) _).alloc (by simp) _
  have B1 := Blk.new (w.alloc (.cells #[.int .i64 a, .int .i64 b, .int .i64 s, .int .i64 q, .int .i64 t, .int .u64 z] 24)) 31 #[.int .i64 0, .int .u64 0, .int .i64 0, .int .u64 0, .int .u64 0, .string ⟨#[]⟩]
  simp only [World.size_alloc] at B1
  replace hz := Lib.hid hz
  replace B1 := Lib.hid B1
  replace hR := Lib.hid hR
  replace h := Lib.hid h
  go_enter Try.func89, Try.ntmps89
  go_wp2_with fail
  refine (hR.out _).mono ?_; rintro e w1 ⟨rfl, hb⟩
  have hz1 := nx hz.out (Nat.le_refl _) hb
  have B2 := B1.out.below hb (by simp)
  have c0 := B2.cell 0
  have c1 := B2.cell 1
  have c2 := B2.cell 2
  have c3 := B2.cell 3
  have c4 := B2.cell 4
  have c5 := B2.cell 5
  have f0 := B2.frozen 0
  have f1 := B2.frozen 1
  have f2 := B2.frozen 2
  have f3 := B2.frozen 3
  have f4 := B2.frozen 4
  have f5 := B2.frozen 5
  clear hb
  replace B2 := Lib.hid B2
  replace hz1 := Lib.hid hz1
  go_wp2_with fail
  refine gen_world (α := fun W' => bodyPost _ _ _ _ _ W') (fun W' => Blk W' (w.heap.size + 1) 31 #[.int .i64 0, .int .u64 0, .int .i64 0, .int .u64 0, .int .u64 0, .string ⟨#[]⟩] ∧ Below w.heap.size w W') ⟨Blk.eq_cs ((((((B2.out.set_ 0 _).set_ 1 _).set_ 2 _).set_ 3 _).set_ 4 _).set_ 5 _) rfl, ?_⟩ ?_
  · repeat (refine Below.setCell ?_ (by show w.heap.size ≤ w.heap.size + 1; omega) _)
    exact hz1.out
  rintro W' ⟨g1, g2⟩
  have e0 := g1.cell 0
  have e1 := g1.cell 1
  have e2 := g1.cell 2
  have e3 := g1.cell 3
  have e4 := g1.cell 4
  have e5 := g1.cell 5
  exact bodyPost_ret (v := .agg #[.int .i64 0, .int .u64 0, .int .i64 0, .int .u64 0, .int .u64 0, .string ⟨#[]⟩]) (by simp [results, Try.results89, go_sem, e0, e1, e2, e3, e4, e5]) rfl ⟨rfl, g2⟩
theorem handR_fresh {w w0 : World} {b : Nat} {s : PHand} (h0 : w.heap.size ≤ b) (hb : b < w0.heap.size) (h : HandIn w0 (fun k => w.heap.size ≤ k ∧ k < w0.heap.size) b s) : HandR w0 (fun k => w.heap.size ≤ k ∧ k < w0.heap.size) b s := ⟨fun k hk => hk.2, ⟨h0, hb⟩, h⟩
theorem HandIn.lt {w : World} {Q : Nat → Prop} {b : Nat} {s : PHand} (h : HandIn w Q b s) : b < w.heap.size := by
  obtain ⟨pv, h1, _⟩ := h
  exact h1.lt
theorem field_ring (c : PCfg) (hc : c.Right) (r : Nat) : ∀ j : Nat, 3 + c.pins ≤ j → (j : Int) < 3 + c.pins + c.cap → ∃ y, CtlAt (fieldS c r) j y := fun j h1 h2 => ⟨0, field_ctl c r j (by have := ctlSize_eq hc; have := hc.shelves; omega)⟩
def opText : ByteArray := ⟨#[111, 112]⟩
set_option maxRecDepth 100000 in
set_option maxHeartbeats 4000000 in
theorem awake29 (w : World) : Calls Try.prog 34 #[] w fun e w' => e = .returned (.bool true) ∧ Below w.heap.size w w' := by
  have hFd := fun W => field_any tinyC tiny_right W
  have hNw := fun W => handNew_any tinyC opText (by decide) W
  have hRg := fun W => planRing_any tinyC tiny_right 0 (by decide) W
  have hPn := fun W => handPut_neg tinyC tiny_right 5 W
  have hAn := fun W => handAct_nil W
  rw [show ringAt tinyC 0 = 5 from by decide] at hRg
  rw [tinyVH] at hFd hNw hRg hPn
  rw [show opText = ⟨#[111, 112]⟩ from rfl] at hNw
  replace hFd := Lib.hid hFd
  replace hNw := Lib.hid hNw
  replace hRg := Lib.hid hRg
  replace hPn := Lib.hid hPn
  replace hAn := Lib.hid hAn
  go_enter Try.func34, Try.ntmps34
  go_wp2_with fail
  refine (tiny_any _).mono ?_; rintro e w1 ⟨rfl, hb1⟩
  have B1 := Blk.new w1 24 #[.int .i64 2, .int .i64 2, .int .i64 3, .int .i64 2, .int .i64 1, .int .u64 0]
  have hz1 : Below w.heap.size w (w1.alloc (.cells #[.int .i64 2, .int .i64 2, .int .i64 3, .int .i64 2, .int .i64 1, .int .u64 0] 24)) := hb1.alloc hb1.size _
  clear hb1
  replace B1 := Lib.hid B1
  replace hz1 := Lib.hid hz1
  go_wp2_with fail
  refine (hFd.out _).mono ?_; rintro e w2 ⟨hb, r, rfl, s2⟩
  have C2 := B1.out.below s2.below (by simp)
  obtain ⟨F2, o2⟩ := Own.of_sess s2
  have hF2 := o2.heap.own
  clear s2
  replace o2 := Lib.hid o2
  replace C2 := Lib.hid C2
  have d0 := C2.out.cell 0
  have d1 := C2.out.cell 1
  have d2 := C2.out.cell 2
  have d3 := C2.out.cell 3
  have d4 := C2.out.cell 4
  have d5 := C2.out.cell 5
  go_wp2_with fail
  refine (hNw.out _).mono ?_; rintro e w3 ⟨b, rfl, hN3, hbb, hb3⟩
  have hbl3 := hN3.lt
  have hA := alone_own handRout (o2.out.keep hb3) (handR_fresh hbb hbl3 hN3) (fun k h1 h2 => by have := hF2 k h1; omega) (fun k hk => by have := o2.out.below.size; omega) (by show (0 : Int) ≤ _; decide) (by show (1 : Int) ≤ _; decide) 9 (by decide)
  have hsz3 := hb3.size
  clear d0 d1 d2 d3 d4 d5
  replace hA := Lib.hid hA
  replace hN3 := Lib.hid hN3
  replace hb3 := Lib.hid hb3
  go_wp2_with fail
  refine (hA.out).mono ?_; rintro e w4 ⟨xs, S4, s4', F4, D4, hRun, hstop, _, rfl, o4, hR4, hnew4, hch4, hoff4⟩
  obtain ⟨r4, hp4, hrec4, hcase4⟩ := hand_alone tinyC tiny_right ⟨#[111, 112]⟩ (by decide) (field_ctl tinyC r 1 (by decide)) (field_ring tinyC tiny_right r) hRun hstop (by decide)
  rcases hcase4 with ⟨_, hl, hfu, htk, hS4⟩ | ⟨hno, _⟩
  case inr => exact absurd hno (by decide)
  rw [show ringAt tinyC (cameOf 0) = 5 from by decide, show entV 0 tinyC.cap = 65537 from by decide] at hS4
  rw [hl, show (!(handRout.act s4').2) = true from by show (!(PHand.act s4').2) = true; rw [PHand.act4 hp4]; rfl]
  have hres := handResult_any hR4.2.2
  rw [show s4'.result = ((false, 0, 2), true) from by unfold PHand.result; rw [if_pos hp4, hfu, htk, hrec4]; rfl] at hres
  have hctl : CtlAt S4 5 2 := by rw [hS4]; exact (((field_ctl tinyC r 5 (by decide)).moreN 2 r4 _).other _ (by decide)).same _
  have hwd : S4.words 2 = (⟨#[111, 112]⟩, S4) := by rw [hS4]; rfl
  have hfd : (S4.find 2).isSome = true := by rw [hS4]; rfl
  have hft4 : S4.faults < 9223372036854775807 := by rw [hS4]; show (0 : Int) < _; decide
  have hC4 : Blk w4 w1.heap.size 24 #[.int .i64 2, .int .i64 2, .int .i64 3, .int .i64 2, .int .i64 1, .int .u64 0] := B1.out.below o4.below (by simp)
  clear hRun hstop hl hnew4 hS4 hp4 hrec4 hfu htk
  replace hch4 := Lib.hid hch4
  replace hres := Lib.hid hres
  replace hR4 := Lib.hid hR4
  replace o4 := Lib.hid o4
  replace hctl := Lib.hid hctl
  replace hC4 := Lib.hid hC4
  replace hoff4 := Lib.hid hoff4
  replace hwd := Lib.hid hwd
  replace hfd := Lib.hid hfd
  go_wp2_with fail
  refine (hres.out).mono ?_; rintro e w5 ⟨rfl, hb5⟩
  have o5 := (o4.out.keep hb5).alloc (.cells #[.bool false, .int .i64 0, .int .u64 2] 81)
  have R5 := (Blk.new w5 81 #[.bool false, .int .i64 0, .int .u64 2])
  have hC5 := (hC4.out.below hb5 hC4.out.lt).alloc (.cells #[.bool false, .int .i64 0, .int .u64 2] 81)
  have d0 := hC5.cell 0
  have d1 := hC5.cell 1
  have d2 := hC5.cell 2
  have d3 := hC5.cell 3
  have d4 := hC5.cell 4
  have d5 := hC5.cell 5
  have hsz5 := hb5.size
  clear hb5
  replace o5 := Lib.hid o5
  replace hC5 := Lib.hid hC5
  replace R5 := Lib.hid R5
  go_wp2_with fail
  refine (hRg.out _).mono ?_; rintro e w6 ⟨rfl, hb6⟩
  have o6 := o5.out.keep hb6
  have R6 := R5.out.below hb6 R5.out.lt
  have hC6 := hC5.out.below hb6 hC5.out.lt
  have hld := ctl_load o6.heap hctl.out
  clear hb6 d0 d1 d2 d3 d4 d5
  replace o6 := Lib.hid o6
  replace R6 := Lib.hid R6
  replace hC6 := Lib.hid hC6
  replace hld := Lib.hid hld
  go_wp2_with fail
  refine (hld.out).mono ?_; rintro e w7 ⟨rfl, t7⟩
  have o7 := o6.out.turned t7
  have hnR : ¬ F4 w5.heap.size := fun h => by have := o4.out.heap.own _ h; omega
  have hR6l := R6.out.lt
  have R7 := R6.out.keep (t7.2.block _ hR6l hnR)
  have hnR7 : ¬ nw F4 w6 w7 w5.heap.size := fun h => by
    rcases h with h | h
    · exact hnR h
    · omega
  have hC7 : Blk w7 w1.heap.size 24 #[.int .i64 2, .int .i64 2, .int .i64 3, .int .i64 2, .int .i64 1, .int .u64 0] := B1.out.below o7.below (by simp)
  clear t7
  generalize nw F4 w6 w7 = F7 at *
  have hwo := words_all o7.heap 2 (by decide) hft4
  rw [hwd.out, hfd.out] at hwo
  have hF7 := o7.heap.own
  replace o7 := Lib.hid o7
  replace R7 := Lib.hid R7
  replace hC7 := Lib.hid hC7
  replace hwo := Lib.hid hwo
  go_wp2_with fail
  refine (hwo.out).mono ?_; rintro e w8 ⟨rfl, t8⟩
  have o8 := o7.out.turned t8
  have R8 := R7.out.keep (t8.2.block _ R7.out.lt hnR7)
  have hC8 : Blk w8 w1.heap.size 24 #[.int .i64 2, .int .i64 2, .int .i64 3, .int .i64 2, .int .i64 1, .int .u64 0] := B1.out.below o8.below (by simp)
  clear t8
  replace o8 := Lib.hid o8
  replace R8 := Lib.hid R8
  replace hC8 := Lib.hid hC8
  go_wp2_with fail
  refine (hAn.out _).mono ?_; rintro e w9 ⟨rfl, hb9⟩
  have o9 := (o8.out.keep hb9).alloc (.cells #[.int .i64 0, .int .u64 0, .int .i64 0, .int .u64 0, .int .u64 0, .string ⟨#[]⟩] 31)
  have R9 := (R8.out.below hb9 R8.out.lt).alloc (.cells #[.int .i64 0, .int .u64 0, .int .i64 0, .int .u64 0, .int .u64 0, .string ⟨#[]⟩] 31)
  have hC9 := (hC8.out.below hb9 hC8.out.lt).alloc (.cells #[.int .i64 0, .int .u64 0, .int .i64 0, .int .u64 0, .int .u64 0, .string ⟨#[]⟩] 31)
  have d0 := hC9.cell 0
  have d1 := hC9.cell 1
  have d2 := hC9.cell 2
  have d3 := hC9.cell 3
  have d4 := hC9.cell 4
  have d5 := hC9.cell 5
  have p0 := R9.cell 0
  have p1 := R9.cell 1
  have p2 := R9.cell 2
  clear hb9
  replace o9 := Lib.hid o9
  replace R9 := Lib.hid R9
  replace hC9 := Lib.hid hC9
  go_wp2_with fail
  refine (hPn.out _).mono ?_; rintro e w10 ⟨rfl, hb10⟩
  have o10 := o9.out.keep hb10
  go_wp2_with fail
  go_ret
  exact ⟨rfl, hz1.out.trans (o10.below.mono hz1.out.size)⟩
end Go.Proofs.Ytfelkkbgbgnpaaa
