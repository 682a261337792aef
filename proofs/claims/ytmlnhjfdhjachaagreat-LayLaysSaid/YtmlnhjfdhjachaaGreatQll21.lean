import Derived.Test.YtmlnhjfdhjachaaGreatQll14
import Derived.Test.YtmlnhjfdhjachaaGreatQll20
/-
  Reading all keys (layer 27), as a routine. No condition.
-/
namespace Go.Proofs.YtmlnhjfdhjachaaGreat
set_option linter.unusedVariables false
open Go.ChangeShapes Go.WideShapes Go.ChangeAt Go.RowKit
open Go.ChangeMaps (setBlock)

/-- What holds of one that goes. -/
structure PView.Inv (s : PView) : Prop where
  part : 1 ≤ s.part ∧ s.part ≤ 6
  right : s.cfg.Right
  pp : 2 ≤ s.part → s.part ≤ 5 → 0 ≤ s.pp ∧ s.pp < s.cfg.pins
  pe : 0 ≤ s.pe ∧ s.pe ≤ 18446744073709551615
  block : 0 ≤ s.block ∧ s.block ≤ 18446744073709551615
  shelf : 0 ≤ s.shelf ∧ s.shelf ≤ s.cfg.shelves
  on : 1 ≤ s.part → s.part ≤ 4 → s.shelf < s.cfg.shelves
  nodup : (s.seen.map (·.1)).Nodup
  few : (s.seen.length : Int) ≤ s.shelf


  code : s.part ≤ 5 → s.code = 0
/-- A row of pairs of its own. -/
def PairsAt (w : World) (Q : Nat → Prop) (v : Value) (m : List (ByteArray × ByteArray)) : Prop := w.ownsRow 0 90 2 v m.length (pairL m) ∧ ∀ g, v.ownBlock = some g → Q g
theorem PairsAt.keep {w w' : World} {Q : Nat → Prop} {v : Value} {m : List (ByteArray × ByteArray)} (h : PairsAt w Q v m) (hk : ∀ k, Q k → w'.heap[k]? = w.heap[k]?) : PairsAt w' Q v m :=
  ⟨⟨h.1.1, h.1.2.imp id fun ⟨g, cap, cur, e1, e2, e3, r⟩ => ⟨g, cap, cur, e1, e2, (hk g (h.2 g (by rw [e1]; rfl))).trans e3, r⟩⟩, h.2⟩
theorem PairsAt.nil (w : World) (Q : Nat → Prop) : PairsAt w Q (.slice none 0 0) [] := ⟨World.ownsRow_nil _ _ _ _, fun g hg => by cases hg⟩
/-- A part that goes lies at a block of its own. -/
structure ViewSub (w : World) (Q : Nat → Prop) (b : Nat) (s : PView) (pv cv sv ov : Value) : Prop where
  pin : s.part = 1 → ∃ rb, pv = .pointer (some ⟨rb, 0, none⟩) ∧ Q rb ∧ rb ≠ b ∧ PinOk s.cfg w rb s.pin ∧ s.pin.part ≠ 5
  chain : s.part = 4 → ∃ rb, cv = .pointer (some ⟨rb, 0, none⟩) ∧ Q rb ∧ rb ≠ b ∧ ChainIn w rb s.chain ∧ 1 ≤ s.chain.part ∧ s.chain.part ≠ 6
  map : ∃ mb, sv = .map (some mb) ∧ Q mb ∧ mb ≠ b ∧ MapTs w mb (seenV s.seen)
  none_ : s.part ≤ 5 → ov = .slice none 0 0
  out : s.part = 6 → PairsAt w Q ov s.out
def ViewIn (w : World) (Q : Nat → Prop) (b : Nat) (s : PView) : Prop :=
  ∃ pv cv sv ov, Blk w b 97 (s.cells pv cv sv ov) ∧ (s.part = 0 ∨ (s.Inv ∧ ViewSub w Q b s pv cv sv ov))
theorem ViewSub.keep {w w' : World} {Q : Nat → Prop} {b : Nat} {s : PView} {pv cv sv ov : Value} (h : ViewSub w Q b s pv cv sv ov) (hk : ∀ k, Q k → w'.heap[k]? = w.heap[k]?) : ViewSub w' Q b s pv cv sv ov where
  pin e := by obtain ⟨rb, h1, h2, h3, h4, h5⟩ := h.pin e; exact ⟨rb, h1, h2, h3, h4.keep (hk _ h2), h5⟩
  chain e := by obtain ⟨rb, h1, h2, h3, h4, h5⟩ := h.chain e; exact ⟨rb, h1, h2, h3, h4.keep (hk _ h2), h5⟩
  map := by obtain ⟨mb, h1, h2, h3, h4⟩ := h.map; exact ⟨mb, h1, h2, h3, h4.keep (hk _ h2)⟩
  none_ := h.none_
  out e := (h.out e).keep hk
theorem ViewIn.keep {w w' : World} {Q : Nat → Prop} {b : Nat} {s : PView} (h : ViewIn w Q b s) (hb : Q b) (hk : ∀ k, Q k → w'.heap[k]? = w.heap[k]?) : ViewIn w' Q b s := by
  obtain ⟨pv, cv, sv, ov, h1, h2⟩ := h
  exact ⟨pv, cv, sv, ov, h1.keep (hk _ hb), h2.imp id fun ⟨h3, h4⟩ => ⟨h3, h4.keep hk⟩⟩
theorem viewAct_any {w : World} {Q : Nat → Prop} {b : Nat} {s : PView} (h : ViewIn w Q b s) : Calls Tryz.prog 10 #[.pointer (some ⟨b, 0, none⟩)] w fun e w' => e = .returned (.tuple #[s.act.1.val, .bool s.act.2]) ∧ Below w.heap.size w w' := by
  obtain ⟨pv, cv, sv, ov, hB, hc⟩ := h
  have hz : Below w.heap.size w (w.alloc (.cells #[.int .i64 0, .int .u64 0, .int .i64 0, .int .u64 0, .int .u64 0, .string ⟨#[]⟩] 31)) := (Below.refl _ _).alloc (Nat.le_refl _) _
  obtain ⟨c, part, acts, pin, pp, pe, pt, sh, blk, key, chain, seen, code, mark⟩ := s
  have hB' := hB
  unfold PView.cells at hB'
  simp only at hB' hc
  rcases hc with rfl | ⟨hI, hS⟩
  · exact viewAct0_any hB'
  · have hp := hI.part
    have hon := hI.on
    have hsh := hI.shelf
    have hpp := hI.pp
    simp only at hp hon hsh hpp
    have hcase : part = 1 ∨ part = 2 ∨ part = 3 ∨ part = 4 ∨ part = 5 ∨ part = 6 := by omega
    rcases hcase with rfl | rfl | rfl | rfl | rfl | rfl
    · obtain ⟨rb, rfl, hq, hne, hs, _⟩ := hS.pin rfl
      have ha : PView.act ⟨c, 1, acts, pin, pp, pe, pt, sh, blk, key, chain, seen, code, mark⟩ = pin.act := rfl
      rw [ha]
      have hA := pinAct_any (hs.lies.below hz)
      simp only at hA
      generalize pin.act = pa at *
      obtain ⟨⟨xk, xb, xc, xo, xn, xt⟩, mo⟩ := pa
      exact viewAct1_any hB' hA
    · exact viewAct2_any hB' hI.right ⟨hsh.1, hon (by decide) (by decide)⟩
    · exact viewAct3_any hB'
    · obtain ⟨rb, rfl, hq, hne, hs, _⟩ := hS.chain rfl
      have ha : PView.act ⟨c, 4, acts, pin, pp, pe, pt, sh, blk, key, chain, seen, code, mark⟩ = chain.act := rfl
      rw [ha]
      have hA := chainAct_any (hs.below hz)
      simp only at hA
      generalize chain.act = pa at *
      obtain ⟨⟨xk, xb, xc, xo, xn, xt⟩, mo⟩ := pa
      exact viewAct4_any hB' hA
    · exact viewAct5_any hB' hI.right (hpp (by decide) (by decide))
    · exact viewAct6_any hB'
def ViewTaken (w : World) (Q : Nat → Prop) (b : Nat) (s : PView) (e : Ending) (w' : World) : Prop := e = .returned (.tuple #[]) ∧ ViewIn w' (nw Q w w') b s ∧ Chg Q w w'
section
variable {w : World} {Q : Nat → Prop} {b : Nat} {c : PCfg} {acts pp pe sh blk code mark : Int} {pin : PPin} {chain : PChain} {pt : Bool} {key : ByteArray} {seen : List (ByteArray × ByteArray)} {pv cv sv ov : Value} {rb : Nat} {gw : Int} {gt : ByteArray}
theorem viewTakeP1 (hQb : Q b) (hIn : In Q w) (hg : PGot.Ok ⟨gw, gt⟩) (hB : Blk w b 97 (PView.cells ⟨c, 1, acts, pin, pp, pe, pt, sh, blk, key, chain, seen, code, mark⟩ pv cv sv ov))
    (hI : PView.Inv ⟨c, 1, acts, pin, pp, pe, pt, sh, blk, key, chain, seen, code, mark⟩) (hS : ViewSub w Q b ⟨c, 1, acts, pin, pp, pe, pt, sh, blk, key, chain, seen, code, mark⟩ pv cv sv ov) :
    Calls Tryz.prog 14 #[.pointer (some ⟨b, 0, none⟩), .agg #[.int .u64 gw, .string gt]] w (ViewTaken w Q b (PView.take ⟨c, 1, acts, pin, pp, pe, pt, sh, blk, key, chain, seen, code, mark⟩ ⟨gw, gt⟩)) := by
  obtain ⟨rb, rfl, hq, hne, hs, hn⟩ := hS.pin rfl
  obtain ⟨mb, rfl, hqm, hmb, hM⟩ := hS.map
  obtain rfl := hS.none_ (by show (1 : Int) ≤ 5; decide)
  have hon := hI.on (by show (1 : Int) ≤ 1; decide) (by show (1 : Int) ≤ 4; decide)
  have hcode := hI.code (by show (1 : Int) ≤ 5; decide)
  simp only at hcode hs hn hM hon
  have hrb := hIn _ hq
  have hmlt := hIn _ hqm
  have hrm : mb ≠ rb := fun e => by
    obtain ⟨es, cl, h2, _⟩ := hM.some_
    have h3 := hs.lies.blk
    rw [e] at h2
    have h4 : w.heap[rb]? = some (.cells _ _) := h3
    rw [h2] at h4
    cases h4
  have hpp := pin_take_pin hs.inv hn ⟨gw, gt⟩
  have ht : PView.take ⟨c, 1, acts, pin, pp, pe, pt, sh, blk, key, chain, seen, code, mark⟩ ⟨gw, gt⟩ = PView.settle1 ⟨c, 1, IntKind.i64.wrap (acts + 1), pin.take ⟨gw, gt⟩, pp, pe, pt, sh, blk, key, chain, seen, code, mark⟩ := rfl
  rw [ht]
  have hT : ∀ W : World, W.heap[rb]? = w.heap[rb]? → Calls Tryz.prog 49 #[.pointer (some ⟨rb, 0, none⟩), .agg #[.int .u64 gw, .string gt]] W fun e w' => e = .returned (.tuple #[]) ∧ PinOk c w' rb (pin.take ⟨gw, gt⟩) ∧ Chg (fun k => k = rb) W w' := fun W hW => rpinTake_ok (hs.keep hW) ⟨gw, gt⟩ hg
  generalize pin.take ⟨gw, gt⟩ = r at *
  have hB' := hB
  unfold PView.cells at hB'
  simp only at hB'
  have hps := fun (W : World) (h : PinOk c W rb r) => settle_pin h
  have hm2 : ∀ {W : World}, Chg (fun k => k = rb ∨ k = b) w W → MapTs W mb (seenV seen) := fun hC => hM.keep (hC.block mb hmlt (by rintro (h | h); exact hrm h; exact hmb h))
  by_cases h5 : r.part = 5
  · cases htk : r.taken with
    | true =>
      have hst : PView.settle1 ⟨c, 1, IntKind.i64.wrap (acts + 1), r, pp, pe, pt, sh, blk, key, chain, seen, code, mark⟩ = ⟨c, 6, IntKind.i64.wrap (acts + 1), r, pp, pe, pt, sh, blk, key, chain, seen, 11, mark⟩ := by simp [PView.settle1, h5, htk]
      rw [hst]
      refine (viewTake1_any hB' hne hrb (P := fun W => PinOk c W rb r) (Post := fun W w' => Blk w' b 97 (PView.cells ⟨c, 6, IntKind.i64.wrap (acts + 1), r, pp, pe, pt, sh, blk, key, chain, seen, 11, mark⟩ (.pointer (some ⟨rb, 0, none⟩)) cv (.map (some mb)) (.slice none 0 0)) ∧ Chg (fun k => k = b) W w') hT fun W hBW hp hC => ?_).mono ?_
      · have hr := hps W hp
        rw [PPin.result5 h5, htk] at hr
        exact viewPinT_any hBW hr
      · rintro e w' ⟨rfl, W, hp, hBW, hC, hB3, hC3⟩
        have hC4 : Chg Q w w' := (chg_two hC hq hQb).trans hC3 fun i hi => Or.inl (by rw [hi]; exact hQb)
        have hM4 := (hm2 hC).keep (hC3.block mb (by have := hC.size; omega) hmb)
        exact ⟨rfl, ⟨_, _, _, _, hB3, .inr ⟨⟨by show (1 : Int) ≤ 6 ∧ (6 : Int) ≤ 6; decide, hI.right, fun _ h => absurd h (by show ¬ (6 : Int) ≤ 5; decide), hI.pe, hI.block, hI.shelf, fun _ h => absurd h (by show ¬ (6 : Int) ≤ 4; decide), hI.nodup, hI.few, fun h => absurd h (by show ¬ (6 : Int) ≤ 5; decide)⟩, ⟨fun e => by simp at e, fun e => by simp at e, ⟨mb, rfl, .inl hqm, hmb, hM4⟩, fun _ => rfl, fun _ => PairsAt.nil _ _⟩⟩⟩, hC4⟩
    | false =>
      have hst : PView.settle1 ⟨c, 1, IntKind.i64.wrap (acts + 1), r, pp, pe, pt, sh, blk, key, chain, seen, code, mark⟩ = ⟨c, 2, IntKind.i64.wrap (acts + 1), r, r.pin, r.epoch, false, sh, blk, key, chain, seen, code, IntKind.i64.wrap (acts + 1)⟩ := by simp [PView.settle1, h5, htk]
      rw [hst]
      have hpr := hpp h5 htk
      refine (viewTake1_any hB' hne hrb (P := fun W => PinOk c W rb r) (Post := fun W w' => Blk w' b 97 (PView.cells ⟨c, 2, IntKind.i64.wrap (acts + 1), r, r.pin, r.epoch, false, sh, blk, key, chain, seen, code, IntKind.i64.wrap (acts + 1)⟩ (.pointer (some ⟨rb, 0, none⟩)) cv (.map (some mb)) (.slice none 0 0)) ∧ Chg (fun k => k = b) W w') hT fun W hBW hp hC => ?_).mono ?_
      · have hr := hps W hp
        rw [PPin.result5 h5, htk] at hr
        exact viewPinP_any hBW hr
      · rintro e w' ⟨rfl, W, hp, hBW, hC, hB3, hC3⟩
        have hC4 : Chg Q w w' := (chg_two hC hq hQb).trans hC3 fun i hi => Or.inl (by rw [hi]; exact hQb)
        have hM4 := (hm2 hC).keep (hC3.block mb (by have := hC.size; omega) hmb)
        exact ⟨rfl, ⟨_, _, _, _, hB3, .inr ⟨⟨by show (1 : Int) ≤ 2 ∧ (2 : Int) ≤ 6; decide, hI.right, fun _ _ => hpr, hp.lies.epoch, hI.block, hI.shelf, fun _ _ => hon, hI.nodup, hI.few, fun _ => hcode⟩, ⟨fun e => by simp at e, fun e => by simp at e, ⟨mb, rfl, .inl hqm, hmb, hM4⟩, fun _ => rfl, fun e => by simp at e⟩⟩⟩, hC4⟩
  · have hst : PView.settle1 ⟨c, 1, IntKind.i64.wrap (acts + 1), r, pp, pe, pt, sh, blk, key, chain, seen, code, mark⟩ = ⟨c, 1, IntKind.i64.wrap (acts + 1), r, pp, pe, pt, sh, blk, key, chain, seen, code, mark⟩ := by simp [PView.settle1, h5]
    rw [hst]
    refine (viewTake1_any hB' hne hrb (P := fun W => PinOk c W rb r) (Post := fun W w' => Below W.heap.size W w') hT fun W hBW hp hC => ?_).mono ?_
    · have hr := hps W hp
      rw [PPin.resultN h5] at hr
      exact viewPinN_any hBW hr
    · rintro e w' ⟨rfl, W, hp, hBW, hC, hb2⟩
      have hM4 := (hm2 hC).keep (hb2.block mb (by have := hC.size; omega))
      exact ⟨rfl, ⟨_, _, _, _, hBW.below hb2 hBW.lt, .inr ⟨⟨hI.part, hI.right, fun h _ => absurd h (by show ¬ (2 : Int) ≤ 1; decide), hI.pe, hI.block, hI.shelf, hI.on, hI.nodup, hI.few, hI.code⟩, ⟨fun _ => ⟨rb, rfl, .inl hq, hne, hp.below hb2, h5⟩, fun e => by simp at e, ⟨mb, rfl, .inl hqm, hmb, hM4⟩, fun _ => rfl, fun e => by simp at e⟩⟩⟩, (chg_two hC hq hQb).next_ hb2⟩
theorem viewTakeP2 (hQb : Q b) (hIn : In Q w) (hg : PGot.Ok ⟨gw, gt⟩) (hB : Blk w b 97 (PView.cells ⟨c, 2, acts, pin, pp, pe, pt, sh, blk, key, chain, seen, code, mark⟩ pv cv sv ov))
    (hI : PView.Inv ⟨c, 2, acts, pin, pp, pe, pt, sh, blk, key, chain, seen, code, mark⟩) (hS : ViewSub w Q b ⟨c, 2, acts, pin, pp, pe, pt, sh, blk, key, chain, seen, code, mark⟩ pv cv sv ov) :
    Calls Tryz.prog 14 #[.pointer (some ⟨b, 0, none⟩), .agg #[.int .u64 gw, .string gt]] w (ViewTaken w Q b (PView.take ⟨c, 2, acts, pin, pp, pe, pt, sh, blk, key, chain, seen, code, mark⟩ ⟨gw, gt⟩)) := by
  obtain ⟨mb, rfl, hqm, hmb, hM⟩ := hS.map
  obtain rfl := hS.none_ (by show (2 : Int) ≤ 5; decide)
  have hon := hI.on (by show (1 : Int) ≤ 2; decide) (by show (2 : Int) ≤ 4; decide)
  have hcode := hI.code (by show (2 : Int) ≤ 5; decide)
  have hpp := hI.pp (by show (2 : Int) ≤ 2; decide) (by show (2 : Int) ≤ 5; decide)
  have hshl := hI.shelf
  have hrt := hI.right.shelves
  simp only at hcode hM hon hpp hshl hrt
  have hmlt := hIn _ hqm
  have hB' := hB
  unfold PView.cells at hB'
  simp only at hB'
  by_cases h0 : gw = 0
  · subst h0
    have ht : PView.take ⟨c, 2, acts, pin, pp, pe, pt, sh, blk, key, chain, seen, code, mark⟩ ⟨0, gt⟩ = ⟨c, if sh + 1 = c.shelves then 5 else 2, IntKind.i64.wrap (acts + 1), pin, pp, pe, pt, sh + 1, 0, key, chain, seen, code, mark⟩ := rfl
    rw [ht]
    refine (viewTake2Z_any hB' (by omega) rfl rfl).mono ?_
    rintro e w' ⟨rfl, hB3, hC3⟩
    have hM4 := hM.keep (hC3.block mb hmlt hmb)
    have hcs : (if sh + 1 = c.shelves then (5 : Int) else 2) = 5 ∨ (if sh + 1 = c.shelves then (5 : Int) else 2) = 2 ∧ sh + 1 < c.shelves := by
      by_cases h : sh + 1 = c.shelves
      · rw [if_pos h]; exact .inl rfl
      · rw [if_neg h]; exact .inr ⟨rfl, by omega⟩
    have hfew := hI.few
    simp only at hfew
    generalize (if sh + 1 = c.shelves then (5 : Int) else 2) = np at *
    exact ⟨rfl, ⟨_, _, _, _, hB3, .inr ⟨⟨by show (1 : Int) ≤ np ∧ np ≤ 6; omega, hI.right, fun _ _ => hpp, hI.pe, by show (0 : Int) ≤ 0 ∧ (0 : Int) ≤ 18446744073709551615; decide, by show (0 : Int) ≤ sh + 1 ∧ sh + 1 ≤ c.shelves; omega, fun _ h => by show sh + 1 < c.shelves; have h : np ≤ 4 := h; omega, hI.nodup, by show (seen.length : Int) ≤ sh + 1; omega, fun _ => hcode⟩, ⟨fun e => by have e : np = 1 := e; omega, fun e => by have e : np = 4 := e; omega, ⟨mb, rfl, .inl hqm, hmb, hM4⟩, fun _ => rfl, fun e => by have e : np = 6 := e; omega⟩⟩⟩, hC3.mono fun i hi => by rw [hi]; exact hQb⟩
  · have ht : PView.take ⟨c, 2, acts, pin, pp, pe, pt, sh, blk, key, chain, seen, code, mark⟩ ⟨gw, gt⟩ = ⟨c, 3, IntKind.i64.wrap (acts + 1), pin, pp, pe, pt, sh, gw, key, chain, seen, code, mark⟩ := by
      show (if gw = 0 then _ else _) = _
      rw [if_neg h0]
    rw [ht]
    refine (viewTake2N_any hB' h0).mono ?_
    rintro e w' ⟨rfl, hB3, hC3⟩
    have hM4 := hM.keep (hC3.block mb hmlt hmb)
    exact ⟨rfl, ⟨_, _, _, _, hB3, .inr ⟨⟨by show (1 : Int) ≤ 3 ∧ (3 : Int) ≤ 6; decide, hI.right, fun _ _ => hpp, hI.pe, hg, hI.shelf, fun _ _ => hon, hI.nodup, hI.few, fun _ => hcode⟩, ⟨fun e => by simp at e, fun e => by simp at e, ⟨mb, rfl, .inl hqm, hmb, hM4⟩, fun _ => rfl, fun e => by simp at e⟩⟩⟩, hC3.mono fun i hi => by rw [hi]; exact hQb⟩
theorem viewTakeP3 (hQb : Q b) (hIn : In Q w) (hg : PGot.Ok ⟨gw, gt⟩) (hB : Blk w b 97 (PView.cells ⟨c, 3, acts, pin, pp, pe, pt, sh, blk, key, chain, seen, code, mark⟩ pv cv sv ov))
    (hI : PView.Inv ⟨c, 3, acts, pin, pp, pe, pt, sh, blk, key, chain, seen, code, mark⟩) (hS : ViewSub w Q b ⟨c, 3, acts, pin, pp, pe, pt, sh, blk, key, chain, seen, code, mark⟩ pv cv sv ov) :
    Calls Tryz.prog 14 #[.pointer (some ⟨b, 0, none⟩), .agg #[.int .u64 gw, .string gt]] w (ViewTaken w Q b (PView.take ⟨c, 3, acts, pin, pp, pe, pt, sh, blk, key, chain, seen, code, mark⟩ ⟨gw, gt⟩)) := by
  obtain ⟨mb, rfl, hqm, hmb, hM⟩ := hS.map
  obtain rfl := hS.none_ (by show (3 : Int) ≤ 5; decide)
  have hon := hI.on (by show (1 : Int) ≤ 3; decide) (by show (3 : Int) ≤ 4; decide)
  have hcode := hI.code (by show (3 : Int) ≤ 5; decide)
  have hpp := hI.pp (by show (2 : Int) ≤ 3; decide) (by show (3 : Int) ≤ 5; decide)
  have hshl := hI.shelf
  simp only at hcode hM hon hpp hshl
  have hmlt := hIn _ hqm
  have hB' := hB
  unfold PView.cells at hB'
  simp only at hB'
  have ht : PView.take ⟨c, 3, acts, pin, pp, pe, pt, sh, blk, key, chain, seen, code, mark⟩ ⟨gw, gt⟩ = ⟨c, 4, IntKind.i64.wrap (acts + 1), pin, pp, pe, pt, sh, blk, gt, newChain (3 + c.pins + c.cap + 2 * sh + 1) pe, seen, code, mark⟩ := rfl
  rw [ht]
  refine (viewTake3_any hB' hI.right ⟨hshl.1, hon⟩ hI.pe).mono ?_
  rintro e w' ⟨rfl, cb, hB3, hV, hcb, hC3⟩
  have hM4 := hM.keep (hC3.block mb hmlt hmb)
  have hbl := hIn _ hQb
  exact ⟨rfl, ⟨_, _, _, _, hB3, .inr ⟨⟨by show (1 : Int) ≤ 4 ∧ (4 : Int) ≤ 6; decide, hI.right, fun _ _ => hpp, hI.pe, hI.block, hI.shelf, fun _ _ => hon, hI.nodup, hI.few, fun _ => hcode⟩, ⟨fun e => by simp at e, fun _ => ⟨cb, rfl, .inr ⟨hcb, hV.blk.lt⟩, by omega, hV, by show (1 : Int) ≤ 1; decide, by show (1 : Int) ≠ 6; decide⟩, ⟨mb, rfl, .inl hqm, hmb, hM4⟩, fun _ => rfl, fun e => by simp at e⟩⟩⟩, hC3.mono fun i hi => by rw [hi]; exact hQb⟩
theorem viewTakeP4 (hQb : Q b) (hIn : In Q w) (hg : PGot.Ok ⟨gw, gt⟩) (hB : Blk w b 97 (PView.cells ⟨c, 4, acts, pin, pp, pe, pt, sh, blk, key, chain, seen, code, mark⟩ pv cv sv ov))
    (hI : PView.Inv ⟨c, 4, acts, pin, pp, pe, pt, sh, blk, key, chain, seen, code, mark⟩) (hS : ViewSub w Q b ⟨c, 4, acts, pin, pp, pe, pt, sh, blk, key, chain, seen, code, mark⟩ pv cv sv ov) :
    Calls Tryz.prog 14 #[.pointer (some ⟨b, 0, none⟩), .agg #[.int .u64 gw, .string gt]] w (ViewTaken w Q b (PView.take ⟨c, 4, acts, pin, pp, pe, pt, sh, blk, key, chain, seen, code, mark⟩ ⟨gw, gt⟩)) := by
  obtain ⟨rb, rfl, hq, hne, hs, h1, hn⟩ := hS.chain rfl
  obtain ⟨mb, rfl, hqm, hmb, hM⟩ := hS.map
  obtain rfl := hS.none_ (by show (4 : Int) ≤ 5; decide)
  have hon := hI.on (by show (1 : Int) ≤ 4; decide) (by show (4 : Int) ≤ 4; decide)
  have hcode := hI.code (by show (4 : Int) ≤ 5; decide)
  have hpp := hI.pp (by show (2 : Int) ≤ 4; decide) (by show (4 : Int) ≤ 5; decide)
  have hshl := hI.shelf
  have hrt := hI.right.shelves
  have hfew := hI.few
  have hnd := hI.nodup
  simp only at hcode hs h1 hn hM hon hpp hshl hrt hfew hnd
  have hrb := hIn _ hq
  have hmlt := hIn _ hqm
  have hrm : mb ≠ rb := fun e => by
    obtain ⟨es, cl, h2, _⟩ := hM.some_
    have h3 := hs.blk
    rw [e] at h2
    have h4 : w.heap[rb]? = some (.cells _ _) := h3
    rw [h2] at h4
    cases h4
  have hti := chain_take_part h1 ⟨gw, gt⟩
  have ht : PView.take ⟨c, 4, acts, pin, pp, pe, pt, sh, blk, key, chain, seen, code, mark⟩ ⟨gw, gt⟩ = PView.settle4 ⟨c, 4, IntKind.i64.wrap (acts + 1), pin, pp, pe, pt, sh, blk, key, chain.take ⟨gw, gt⟩, seen, code, mark⟩ := rfl
  rw [ht]
  have hT : ∀ W : World, W.heap[rb]? = w.heap[rb]? → Calls Tryz.prog 53 #[.pointer (some ⟨rb, 0, none⟩), .agg #[.int .u64 gw, .string gt]] W fun e w' => e = .returned (.tuple #[]) ∧ ChainIn w' rb (chain.take ⟨gw, gt⟩) ∧ Chg (fun k => k = rb) W w' := fun W hW => chainTake_any (hs.keep hW) ⟨gw, gt⟩ hg
  generalize chain.take ⟨gw, gt⟩ = r at *
  have hB' := hB
  unfold PView.cells at hB'
  simp only at hB'
  have hps := fun (W : World) (h : ChainIn W rb r) => settle_chain h
  have hm2 : ∀ {W : World}, Chg (fun k => k = rb ∨ k = b) w W → MapTs W mb (seenV seen) := fun hC => hM.keep (hC.block mb hmlt (by rintro (h | h); exact hrm h; exact hmb h))
  by_cases h6 : r.part = 6
  · obtain ⟨np, hnp⟩ : ∃ np, (if sh + 1 = c.shelves then (5 : Int) else 2) = np := ⟨_, rfl⟩
    have hcs : np = 5 ∨ np = 2 ∧ sh + 1 < c.shelves := by
      rw [← hnp]
      by_cases h : sh + 1 = c.shelves
      · rw [if_pos h]; exact .inl rfl
      · rw [if_neg h]; exact .inr ⟨rfl, by omega⟩
    cases hh : r.has with
    | true =>
      have hst : PView.settle4 ⟨c, 4, IntKind.i64.wrap (acts + 1), pin, pp, pe, pt, sh, blk, key, r, seen, code, mark⟩ = ⟨c, np, IntKind.i64.wrap (acts + 1), pin, pp, pe, pt, sh + 1, blk, key, r, putM seen key r.text, code, mark⟩ := by simp [PView.settle4, h6, hh, PView.next, hnp]
      rw [hst]
      have hl1 := putM_len seen key r.text
      have hnd2 := putM_nodup hnd key r.text
      refine (viewTake4_any hB' hne hrb (P := fun W => ChainIn W rb r) (Post := fun W w' => Blk w' b 97 (PView.cells ⟨c, np, IntKind.i64.wrap (acts + 1), pin, pp, pe, pt, sh + 1, blk, key, r, putM seen key r.text, code, mark⟩ pv (.pointer (some ⟨rb, 0, none⟩)) (.map (some mb)) (.slice none 0 0)) ∧ MapTs w' mb (seenV (putM seen key r.text)) ∧ Chg (fun k => k = b ∨ k = mb) W w') hT fun W hBW hp hC => ?_).mono ?_
      · have hr := hps W hp
        rw [show r.result = ((r.has, r.text, r.vblock), true) from by unfold PChain.result; rw [if_pos h6], hh] at hr
        exact viewReadY_any hBW (hm2 hC) (fun _ _ => trivial) trivial (by omega) hnp rfl hr
      · rintro e w' ⟨rfl, W, hp, hBW, hC, hB3, hM3, hC3⟩
        have hC4 : Chg Q w w' := (chg_two hC hq hQb).trans hC3 fun i hi => Or.inl (by rcases hi with hi | hi <;> rw [hi] <;> assumption)
        exact ⟨rfl, ⟨_, _, _, _, hB3, .inr ⟨⟨by show (1 : Int) ≤ np ∧ np ≤ 6; omega, hI.right, fun _ _ => hpp, hI.pe, hI.block, by show (0 : Int) ≤ sh + 1 ∧ sh + 1 ≤ c.shelves; omega, fun _ h => by show sh + 1 < c.shelves; have h : np ≤ 4 := h; omega, hnd2, by show ((putM seen key r.text).length : Int) ≤ sh + 1; omega, fun _ => hcode⟩, ⟨fun e => by have e : np = 1 := e; omega, fun e => by have e : np = 4 := e; omega, ⟨mb, rfl, .inl hqm, hmb, hM3⟩, fun _ => rfl, fun e => by have e : np = 6 := e; omega⟩⟩⟩, hC4⟩
    | false =>
      have hst : PView.settle4 ⟨c, 4, IntKind.i64.wrap (acts + 1), pin, pp, pe, pt, sh, blk, key, r, seen, code, mark⟩ = ⟨c, np, IntKind.i64.wrap (acts + 1), pin, pp, pe, pt, sh + 1, blk, key, r, seen, code, mark⟩ := by simp [PView.settle4, h6, hh, PView.next, hnp]
      rw [hst]
      refine (viewTake4_any hB' hne hrb (P := fun W => ChainIn W rb r) (Post := fun W w' => Blk w' b 97 (PView.cells ⟨c, np, IntKind.i64.wrap (acts + 1), pin, pp, pe, pt, sh + 1, blk, key, r, seen, code, mark⟩ pv (.pointer (some ⟨rb, 0, none⟩)) (.map (some mb)) (.slice none 0 0)) ∧ Chg (fun k => k = b) W w') hT fun W hBW hp hC => ?_).mono ?_
      · have hr := hps W hp
        rw [show r.result = ((r.has, r.text, r.vblock), true) from by unfold PChain.result; rw [if_pos h6], hh] at hr
        exact viewReadZ_any hBW (by omega) hnp rfl hr
      · rintro e w' ⟨rfl, W, hp, hBW, hC, hB3, hC3⟩
        have hC4 : Chg Q w w' := (chg_two hC hq hQb).trans hC3 fun i hi => Or.inl (by rw [hi]; exact hQb)
        have hM4 := (hm2 hC).keep (hC3.block mb (by have := hC.size; omega) hmb)
        exact ⟨rfl, ⟨_, _, _, _, hB3, .inr ⟨⟨by show (1 : Int) ≤ np ∧ np ≤ 6; omega, hI.right, fun _ _ => hpp, hI.pe, hI.block, by show (0 : Int) ≤ sh + 1 ∧ sh + 1 ≤ c.shelves; omega, fun _ h => by show sh + 1 < c.shelves; have h : np ≤ 4 := h; omega, hnd, by show (seen.length : Int) ≤ sh + 1; omega, fun _ => hcode⟩, ⟨fun e => by have e : np = 1 := e; omega, fun e => by have e : np = 4 := e; omega, ⟨mb, rfl, .inl hqm, hmb, hM4⟩, fun _ => rfl, fun e => by have e : np = 6 := e; omega⟩⟩⟩, hC4⟩
  · have hst : PView.settle4 ⟨c, 4, IntKind.i64.wrap (acts + 1), pin, pp, pe, pt, sh, blk, key, r, seen, code, mark⟩ = ⟨c, 4, IntKind.i64.wrap (acts + 1), pin, pp, pe, pt, sh, blk, key, r, seen, code, mark⟩ := by simp [PView.settle4, h6]
    rw [hst]
    refine (viewTake4_any hB' hne hrb (P := fun W => ChainIn W rb r) (Post := fun W w' => Below W.heap.size W w') hT fun W hBW hp hC => ?_).mono ?_
    · have hr := hps W hp
      rw [show r.result = ((false, ByteArray.empty, 0), false) from by unfold PChain.result; rw [if_neg h6]] at hr
      exact viewReadN_any hBW hr
    · rintro e w' ⟨rfl, W, hp, hBW, hC, hb2⟩
      have hM4 := (hm2 hC).keep (hb2.block mb (by have := hC.size; omega))
      exact ⟨rfl, ⟨_, _, _, _, hBW.below hb2 hBW.lt, .inr ⟨⟨hI.part, hI.right, fun _ _ => hpp, hI.pe, hI.block, hI.shelf, hI.on, hI.nodup, hI.few, hI.code⟩, ⟨fun e => by simp at e, fun _ => ⟨rb, rfl, .inl hq, hne, hp.below hb2, hti, h6⟩, ⟨mb, rfl, .inl hqm, hmb, hM4⟩, fun _ => rfl, fun e => by simp at e⟩⟩⟩, (chg_two hC hq hQb).next_ hb2⟩
theorem PairsAt.of_own {w w' : World} {Q : Nat → Prop} {v : Value} {m : List (ByteArray × ByteArray)} (h : w'.ownsRow w.heap.size 90 2 v m.length (pairL m)) : PairsAt w' (nw Q w w') v m := by
  refine ⟨⟨h.1, h.2.imp id fun ⟨g, cap, cur, e1, e2, e3, r⟩ => ⟨g, cap, cur, e1, Nat.zero_le _, e3, r⟩⟩, fun g hg => .inr ?_⟩
  rcases h.2 with ⟨rfl, _⟩ | ⟨g', cap, cur, rfl, hb, e3, _⟩
  · cases hg
  · injection hg with hg
    subst hg
    exact ⟨hb, (Array.getElem?_eq_some_iff.1 e3).1⟩
theorem viewTakeP5 (hQb : Q b) (hIn : In Q w) (hB : Blk w b 97 (PView.cells ⟨c, 5, acts, pin, pp, pe, pt, sh, blk, key, chain, seen, code, mark⟩ pv cv sv ov))
    (hI : PView.Inv ⟨c, 5, acts, pin, pp, pe, pt, sh, blk, key, chain, seen, code, mark⟩) (hS : ViewSub w Q b ⟨c, 5, acts, pin, pp, pe, pt, sh, blk, key, chain, seen, code, mark⟩ pv cv sv ov) :
    Calls Tryz.prog 14 #[.pointer (some ⟨b, 0, none⟩), .agg #[.int .u64 gw, .string gt]] w (ViewTaken w Q b (PView.take ⟨c, 5, acts, pin, pp, pe, pt, sh, blk, key, chain, seen, code, mark⟩ ⟨gw, gt⟩)) := by
  obtain ⟨mb, rfl, hqm, hmb, hM⟩ := hS.map
  have hcode := hI.code (by show (5 : Int) ≤ 5; decide)
  have hrt := hI.right.shelves
  have hshl := hI.shelf
  have hfew := hI.few
  have hnd := hI.nodup
  simp only at hcode hM hrt hshl hfew hnd
  subst hcode
  have ht : PView.take ⟨c, 5, acts, pin, pp, pe, pt, sh, blk, key, chain, seen, 0, mark⟩ ⟨gw, gt⟩ = ⟨c, 6, IntKind.i64.wrap (acts + 1), pin, pp, pe, pt, sh, blk, key, chain, seen, 0, mark⟩ := rfl
  rw [ht]
  have hB' := hB
  unfold PView.cells at hB'
  simp only at hB'
  refine (viewTake5_any hB' hM hnd (by omega)).mono ?_
  rintro e w' ⟨rfl, v, hB3, hown, hC3⟩
  have hM4 := hM.keep (hC3.block mb (hIn _ hqm) hmb)
  exact ⟨rfl, ⟨_, _, _, _, hB3, .inr ⟨⟨by show (1 : Int) ≤ 6 ∧ (6 : Int) ≤ 6; decide, hI.right, fun _ h => absurd h (by show ¬ (6 : Int) ≤ 5; decide), hI.pe, hI.block, hI.shelf, fun _ h => absurd h (by show ¬ (6 : Int) ≤ 4; decide), hI.nodup, hI.few, fun h => absurd h (by show ¬ (6 : Int) ≤ 5; decide)⟩, ⟨fun e => by simp at e, fun e => by simp at e, ⟨mb, rfl, .inl hqm, hmb, hM4⟩, fun h => absurd h (by show ¬ (6 : Int) ≤ 5; decide), fun _ => PairsAt.of_own hown⟩⟩⟩, hC3.mono fun i hi => by rw [hi]; exact hQb⟩
end
theorem viewTake_any {w : World} {Q : Nat → Prop} {b : Nat} {s : PView} (hQ : In Q w) (hQb : Q b) (h : ViewIn w Q b s) (hmo : s.act.2 = true) (g : PGot) (hg : g.Ok) : Calls Tryz.prog 14 #[.pointer (some ⟨b, 0, none⟩), g.val] w (ViewTaken w Q b (s.take g)) := by
  obtain ⟨pv, cv, sv, ov, hB, hc⟩ := h
  obtain ⟨gw, gt⟩ := g
  rw [show PGot.val ⟨gw, gt⟩ = .agg #[.int .u64 gw, .string gt] from rfl]
  obtain ⟨c, part, acts, pin, pp, pe, pt, sh, blk, key, chain, seen, code, mark⟩ := s
  simp only at hc
  rcases hc with rfl | ⟨hI, hS⟩
  · cases hmo
  · have hp := hI.part
    simp only at hp
    have hcase : part = 1 ∨ part = 2 ∨ part = 3 ∨ part = 4 ∨ part = 5 ∨ part = 6 := by omega
    rcases hcase with rfl | rfl | rfl | rfl | rfl | rfl
    · exact viewTakeP1 hQb hQ hg hB hI hS
    · exact viewTakeP2 hQb hQ hg hB hI hS
    · exact viewTakeP3 hQb hQ hg hB hI hS
    · exact viewTakeP4 hQb hQ hg hB hI hS
    · exact viewTakeP5 hQb hQ hB hI hS
    · cases hmo
def ViewR (w : World) (Q : Nat → Prop) (b : Nat) (s : PView) : Prop := In Q w ∧ Q b ∧ ViewIn w Q b s
theorem viewAct_ok {w : World} {Q : Nat → Prop} {b : Nat} {s : PView} (h : ViewIn w Q b s) : (s.act).1.Ok := by
  have k0 : (-9223372036854775808 : Int) ≤ 0 ∧ (0 : Int) ≤ 9223372036854775807 := by decide
  have k1 : (-9223372036854775808 : Int) ≤ 1 ∧ (1 : Int) ≤ 9223372036854775807 := by decide
  have k2 : (-9223372036854775808 : Int) ≤ 2 ∧ (2 : Int) ≤ 9223372036854775807 := by decide
  have k6 : (-9223372036854775808 : Int) ≤ 6 ∧ (6 : Int) ≤ 9223372036854775807 := by decide
  have z : (0 : Int) ≤ 0 ∧ (0 : Int) ≤ 18446744073709551615 := by decide
  have z1 : (0 : Int) ≤ 1 ∧ (1 : Int) ≤ 18446744073709551615 := by decide
  have hE : ByteArray.empty.size ≤ 9223372036854775807 := by decide
  obtain ⟨pv, cv, sv, ov, hB, hc⟩ := h
  unfold PView.act
  split
  · rename_i hp
    rcases hc with e | ⟨hI, hS⟩
    · omega
    · obtain ⟨rb, _, _, _, hs, _⟩ := hS.pin hp
      exact pinAct_ok hs.inv
  split
  · rename_i hp
    rcases hc with e | ⟨hI, hS⟩
    · omega
    · have h4 := hI.shelf
      have h5 := hI.right.pins
      have h6 := hI.right.cap
      have h7 := hI.right.shelves
      exact ⟨k1, z1, by show -9223372036854775808 ≤ 3 + s.cfg.pins + s.cfg.cap + 2 * s.shelf ∧ 3 + s.cfg.pins + s.cfg.cap + 2 * s.shelf ≤ 9223372036854775807; omega, z, z, hE⟩
  split
  · rename_i hp
    rcases hc with e | ⟨hI, hS⟩
    · omega
    · exact ⟨k6, hI.block, k0, z, z, hE⟩
  split
  · rename_i hp
    rcases hc with e | ⟨hI, hS⟩
    · omega
    · obtain ⟨rb, _, _, _, hs, _⟩ := hS.chain hp
      exact chainAct_ok hs
  split
  · rename_i hp
    rcases hc with e | ⟨hI, hS⟩
    · omega
    · have h4 := hI.pp (by omega) (by omega)
      have h5 := hI.right.pins
      exact ⟨k2, z1, by show -9223372036854775808 ≤ 3 + s.pp ∧ 3 + s.pp ≤ 9223372036854775807; omega, z, z, hE⟩
  · exact ⟨k0, z, k0, z, z, hE⟩
def viewRout : Rout PView where
  T := 27
  fAct := 10
  fTake := 14
  mAct := fun _ _ => by kernel_rfl
  mTake := fun _ _ => by kernel_rfl
  nAct := fun _ _ => by kernel_rfl
  nTake := fun _ _ => by kernel_rfl
  eAct := fun _ _ => by kernel_rfl
  eTake := fun _ _ => by kernel_rfl
  R := ViewR
  own := fun h => h.1
  hG := fun h => h.2.1
  keep := fun ⟨h1, h2, h3⟩ hs hk => ⟨h1.mono hs, h2, h3.keep h2 hk⟩
  act := PView.act
  take := PView.take
  okA := fun h => viewAct_ok h.2.2
  cAct := fun ⟨_, _, h⟩ => viewAct_any h
  cTake := fun {w G b s} g ⟨h1, h2, h3⟩ hg hmo => (viewTake_any h1 h2 h3 hmo g hg).mono fun e w' ⟨he, hv, hc⟩ => ⟨he, ⟨h1.nw hc.size, .inl h2, hv⟩, hc⟩
def noView : PView := ⟨⟨0, 0, 0, 0, 0, 0⟩, 0, 0, newPin ⟨0, 0, 0, 0, 0, 0⟩ 0, 0, 0, false, 0, 0, ByteArray.empty, newChain 0 0, [], 0, 0⟩
def newView (c : PCfg) (th : Int) : PView :=
  if c.right then ⟨c, 1, 0, newPin c th, 0, 0, false, 0, 0, ByteArray.empty, newChain 0 0, [], 0, 0⟩ else noView
theorem viewNew_at (c : PCfg) (th : Int) (hth : 0 ≤ th ∧ th ≤ 9223372036854775807) (w : World) : Calls Tryz.prog 8 #[c.val, .int .i64 th] w fun e w' => ∃ b, e = .returned (.pointer (some ⟨b, 0, none⟩)) ∧ RAt viewRout w.heap.size w' b (newView c th) ∧ Below w.heap.size w w' := by
  cases hc : c.right with
  | true =>
    have hR := (PCfg.right_iff c).1 hc
    refine (viewNewR_any c hR th hth w).mono ?_
    rintro e w' ⟨b, rb, mb, rfl, hB, hM, h1, h2, h3, h4, h5, h6, h7⟩
    have hn : newView c th = ⟨c, 1, 0, newPin c th, 0, 0, false, 0, 0, ByteArray.empty, newChain 0 0, [], 0, 0⟩ := by unfold newView; rw [if_pos hc]
    rw [hn]
    have hsh := hR.shelves
    refine ⟨b, rfl, ⟨fun k => w.heap.size ≤ k ∧ k < w'.heap.size, ⟨fun k hk => hk.2, ⟨h1, hB.lt⟩, _, _, _, _, hB, .inr ⟨⟨by show (1 : Int) ≤ 1 ∧ (1 : Int) ≤ 6; decide, hR, fun h _ => absurd h (by show ¬ (2 : Int) ≤ 1; decide), by show (0 : Int) ≤ 0 ∧ (0 : Int) ≤ 18446744073709551615; decide, by show (0 : Int) ≤ 0 ∧ (0 : Int) ≤ 18446744073709551615; decide, by show (0 : Int) ≤ 0 ∧ 0 ≤ c.shelves; omega, fun _ _ => by show 0 < c.shelves; omega, List.nodup_nil, by show ((0 : Nat) : Int) ≤ 0; decide, fun _ => rfl⟩, ⟨fun _ => ⟨rb, rfl, ⟨h2, h6.lies.blk.lt⟩, h4, h6, by show (1 : Int) ≠ 5; decide⟩, fun e => by simp at e, ⟨mb, rfl, ⟨h3, hM.lt⟩, h5, hM⟩, fun _ => rfl, fun e => by simp at e⟩⟩⟩, fun k hk => hk.1⟩, h7⟩
  | false =>
    refine (viewNewN_any c hc th w).mono ?_
    rintro e w' ⟨b, rfl, hB, h1, h5⟩
    have hn : newView c th = noView := by unfold newView; rw [if_neg (by rw [hc]; decide)]
    rw [hn]
    exact ⟨b, rfl, ⟨fun k => w.heap.size ≤ k ∧ k < w'.heap.size, ⟨fun k hk => hk.2, ⟨h1, hB.lt⟩, _, _, _, _, hB, .inl rfl⟩, fun k hk => hk.1⟩, h5⟩
/-- What is told: nothing, or the code, the pairs and the mark. -/
def ViewTold (w : World) (s : PView) (e : Ending) (w' : World) : Prop :=
  if s.part = 6 then ∃ vA vc, e = .returned (.tuple #[.agg #[.int .i64 s.code, .int .i64 0, .int .i64 0, .bool false, .string ⟨#[]⟩, .slice vA s.out.length vc, .int .i64 0, .slice none 0 0, .int .i64 s.mark, .int .u64 0], .bool true]) ∧ w'.ownsRow w.heap.size 90 2 (.slice vA s.out.length vc) s.out.length (pairL s.out) ∧ Below w.heap.size w w'
  else e = .returned (.tuple #[.agg #[.int .i64 0, .int .i64 0, .int .i64 0, .bool false, .string ⟨#[]⟩, .slice none 0 0, .int .i64 0, .slice none 0 0, .int .i64 0, .int .u64 0], .bool false]) ∧ Below w.heap.size w w'
theorem out_len {s : PView} (h : s.Inv) : s.out.length ≤ 900 := by
  have h1 := h.right.shelves
  have h2 := h.shelf
  have h3 := h.few
  have h4 := putAll_len s.seen []
  unfold PView.out
  split
  · simp at h4; omega
  · simp
theorem viewTold_any {w : World} {Q : Nat → Prop} {b : Nat} {s : PView} (h : ViewIn w Q b s) : Calls Tryz.prog 11 #[.pointer (some ⟨b, 0, none⟩)] w (ViewTold w s) := by
  obtain ⟨pv, cv, sv, ov, hB, hc⟩ := h
  obtain ⟨c, part, acts, pin, pp, pe, pt, sh, blk, key, chain, seen, code, mark⟩ := s
  have hB' := hB
  unfold PView.cells at hB'
  simp only at hB' hc
  by_cases h6 : part = 6
  · subst h6
    rcases hc with h | ⟨hI, hS⟩
    · cases h
    · obtain ⟨hown, _⟩ := hS.out rfl
      have hl := out_len hI
      obtain ⟨⟨A, cp, rfl⟩, _⟩ := own_shape hown
      refine (viewResult_any hB' rfl (by omega) (Reads.of_own hown)).mono fun e w' h => ?_
      unfold ViewTold
      exact (if_pos (show (6 : Int) = 6 from rfl)).mpr h
  · refine (viewResult_no hB' h6).mono fun e w' h => ?_
    unfold ViewTold
    exact (if_neg (show ¬ part = 6 from h6)).mpr h
end Go.Proofs.YtmlnhjfdhjachaaGreat

/-
  The document's view on a tape (layer 27): the plain law of how it goes beside the routine. No condition.
-/
namespace Go.Proofs.YtmlnhjfdhjachaaGreat
set_option linter.unusedVariables false
open Go.ChangeShapes Go.WideShapes Go.ChangeAt Go.RowKit
open Go.ChangeMaps (setBlock)

def vw1 (c : PCfg) (k : Nat) (s : PPin) : PView := ⟨c, 1, IntKind.i64.wrap (k : Int), s, 0, 0, false, 0, 0, ByteArray.empty, newChain 0 0, [], 0, 0⟩
/-- Ahead of a shelf, or behind the last one. -/
def vw2 (c : PCfg) (s : PPin) (m : Nat) (k : Nat) (sh blk : Int) (key : ByteArray) (x : PChain) (seen : List (ByteArray × ByteArray)) : PView := ⟨c, if sh = c.shelves then 5 else 2, IntKind.i64.wrap (k : Int), s, s.pin, s.epoch, false, sh, blk, key, x, seen, 0, IntKind.i64.wrap (m : Int)⟩
def vw3 (c : PCfg) (s : PPin) (m : Nat) (k : Nat) (sh blk : Int) (key : ByteArray) (x : PChain) (seen : List (ByteArray × ByteArray)) : PView := ⟨c, 3, IntKind.i64.wrap (k : Int), s, s.pin, s.epoch, false, sh, blk, key, x, seen, 0, IntKind.i64.wrap (m : Int)⟩
def vw4 (c : PCfg) (s : PPin) (m : Nat) (sh blk : Int) (key : ByteArray) (seen : List (ByteArray × ByteArray)) (k : Nat) (x : PChain) : PView := ⟨c, 4, IntKind.i64.wrap (k : Int), s, s.pin, s.epoch, false, sh, blk, key, x, seen, 0, IntKind.i64.wrap (m : Int)⟩
theorem vwithin1 (c : PCfg) : Within PPin.act PPin.take PView.act PView.take (fun k s => (vw1 c k s).settle1) := by
  refine ⟨fun k s h => ?_, fun k s g h => ?_⟩
  · have h1 := pin_go h
    simp [PView.settle1, vw1, h1, PView.act]
  · have h1 := pin_go h
    have e : (vw1 c k s).settle1 = vw1 c k s := by simp [PView.settle1, vw1, h1]
    show (PView.take ((vw1 c k s).settle1) g) = _
    rw [e]
    show PView.settle1 _ = _
    rw [show IntKind.i64.wrap ((vw1 c k s).acts + 1) = IntKind.i64.wrap ((k + 1 : Nat) : Int) from wrap_succ k]
    rfl
theorem vwithin4 (c : PCfg) (s : PPin) (m : Nat) (sh blk : Int) (key : ByteArray) (seen : List (ByteArray × ByteArray)) : Within PChain.act PChain.take PView.act PView.take (fun k x => (vw4 c s m sh blk key seen k x).settle4) := by
  refine ⟨fun k x h => ?_, fun k x g h => ?_⟩
  · have h1 := chain_go h
    simp [PView.settle4, vw4, h1, PView.act]
  · have h1 := chain_go h
    have e : (vw4 c s m sh blk key seen k x).settle4 = vw4 c s m sh blk key seen k x := by simp [PView.settle4, vw4, h1]
    show (PView.take ((vw4 c s m sh blk key seen k x).settle4) g) = _
    rw [e]
    show PView.settle4 _ = _
    rw [show IntKind.i64.wrap ((vw4 c s m sh blk key seen k x).acts + 1) = IntKind.i64.wrap ((k + 1 : Nat) : Int) from wrap_succ k]
    rfl
theorem vw2_act {c : PCfg} {s : PPin} {m k : Nat} {sh blk : Int} {key : ByteArray} {x : PChain} {seen : List (ByteArray × ByteArray)} (h : sh ≠ c.shelves) : (vw2 c s m k sh blk key x seen).act = (⟨1, 1, 3 + c.pins + c.cap + 2 * sh, 0, 0, ByteArray.empty⟩, true) := by
  simp [PView.act, vw2, h]
theorem vw2_end {c : PCfg} {s : PPin} {m k : Nat} {sh blk : Int} {key : ByteArray} {x : PChain} {seen : List (ByteArray × ByteArray)} (h : sh = c.shelves) : (vw2 c s m k sh blk key x seen).act = (⟨2, 1, 3 + s.pin, 0, 0, ByteArray.empty⟩, true) := by
  simp [PView.act, vw2, h]
theorem vw2_take {c : PCfg} {s : PPin} {m k : Nat} {sh blk : Int} {key : ByteArray} {x : PChain} {seen : List (ByteArray × ByteArray)} (h : sh ≠ c.shelves) (g : PGot) : (vw2 c s m k sh blk key x seen).take g = if g.word = 0 then vw2 c s m (k + 1) (sh + 1) 0 key x seen else vw3 c s m (k + 1) sh g.word key x seen := by
  have e : PView.take (vw2 c s m k sh blk key x seen) g = (if g.word = 0 then PView.next { vw2 c s m k sh blk key x seen with acts := IntKind.i64.wrap ((vw2 c s m k sh blk key x seen).acts + 1), block := g.word } else { vw2 c s m k sh blk key x seen with acts := IntKind.i64.wrap ((vw2 c s m k sh blk key x seen).acts + 1), block := g.word, part := 3 }) := by
    unfold PView.take
    rw [if_neg (by simp [vw2, h]), if_pos (by simp [vw2, h])]
  rw [e, show IntKind.i64.wrap ((vw2 c s m k sh blk key x seen).acts + 1) = IntKind.i64.wrap ((k + 1 : Nat) : Int) from wrap_succ k]
  by_cases h0 : g.word = 0
  · rw [if_pos h0, if_pos h0, h0]
    rfl
  · rw [if_neg h0, if_neg h0]
    rfl
theorem vw3_take (c : PCfg) (s : PPin) (m k : Nat) (sh blk : Int) (key : ByteArray) (x : PChain) (seen : List (ByteArray × ByteArray)) (g : PGot) : (vw3 c s m k sh blk key x seen).take g = (vw4 c s m sh blk g.text seen (k + 1) (newChain (3 + c.pins + c.cap + 2 * sh + 1) s.epoch)).settle4 := by
  have e : PView.take (vw3 c s m k sh blk key x seen) g = { vw3 c s m k sh blk key x seen with acts := IntKind.i64.wrap ((vw3 c s m k sh blk key x seen).acts + 1), key := g.text, part := 4, chain := newChain (3 + c.pins + c.cap + 2 * sh + 1) s.epoch } := rfl
  rw [e, show IntKind.i64.wrap ((vw3 c s m k sh blk key x seen).acts + 1) = IntKind.i64.wrap ((k + 1 : Nat) : Int) from wrap_succ k]
  rfl
theorem vw4_done {c : PCfg} {s : PPin} {m k : Nat} {sh blk : Int} {key : ByteArray} {x : PChain} {seen : List (ByteArray × ByteArray)} (h : x.part = 6) : (vw4 c s m sh blk key seen k x).settle4 = vw2 c s m k (sh + 1) blk key x (if x.has then putM seen key x.text else seen) := by
  unfold PView.settle4
  rw [if_pos (show (vw4 c s m sh blk key seen k x).chain.part = 6 from h)]
  show PView.next (if x.has then _ else _) = _
  cases x.has <;> rfl
theorem newView_vw (c : PCfg) (hc : c.Right) (th : Int) : newView c th = (vw1 c 0 (newPin c th)).settle1 := by
  unfold newView
  rw [if_pos ((PCfg.right_iff c).2 hc)]
  rfl
end Go.Proofs.YtmlnhjfdhjachaaGreat

/-
  Reading all keys alone (layer 27): the plain law. No condition.
-/
namespace Go.Proofs.YtmlnhjfdhjachaaGreat
set_option linter.unusedVariables false
open Go.ChangeShapes Go.WideShapes Go.ChangeAt Go.RowKit
open Go.ChangeMaps (setBlock)

/-- What was read of the first shelves. -/
def seenAt (e : Int) (tx : Nat → Option ByteArray) (st : Nat → List PVersion) : Nat → List (ByteArray × ByteArray)
  | 0 => []
  | n + 1 => match tx n with
    | none => seenAt e tx st n
    | some t => if (readV e (st n) 0).1.1 then putM (seenAt e tx st n) t (readV e (st n) 0).1.2.1 else seenAt e tx st n
/-- How many acts the shelves from one on take. -/
def actsFrom (e : Int) (tx : Nat → Option ByteArray) (st : Nat → List PVersion) : Nat → Nat → Nat
  | 0, _ => 0
  | d + 1, n => (match tx n with
    | none => 1
    | some _ => 3 + (readV e (st n) 0).2.2) + actsFrom e tx st d (n + 1)
theorem seen_nodup (e : Int) (tx : Nat → Option ByteArray) (st : Nat → List PVersion) : ∀ n, ((seenAt e tx st n).map (·.1)).Nodup
  | 0 => List.nodup_nil
  | n + 1 => by
    have ih := seen_nodup e tx st n
    unfold seenAt
    split
    · exact ih
    · split
      · exact putM_nodup ih _ _
      · exact ih
theorem view_run {c : PCfg} (hc : c.Right) {S : PHeap} {tx : Nat → Option ByteArray} {st : Nat → List PVersion} {pn : Nat → Int} {e : Int} (hL : Laid S c tx st pn e) (L : Nat) (hL100 : L ≤ 100) (hlen : ∀ j, (st j).length ≤ L) {s : PPin} {j : Nat} (hj : (j : Int) < c.pins) (hpi : s.pin = j) (hep : s.epoch = e) {mk : Nat} :
    ∀ (d sh : Nat) {k : Nat} {blk : Int} {key : ByteArray} {x : PChain} {xs : List (PAct × PGot)} {S' : PHeap} {s' : PView} {m : Int}, ((d + sh : Nat) : Int) = c.shelves → Runs viewRout S (vw2 c s mk k sh blk key x (seenAt e tx st sh)) xs S' s' → (m ≤ (xs.length : Nat) ∨ viewRout.can S' s' = false) → (d : Int) * (4 + 2 * L) + 2 ≤ m →
      s'.part = 6 ∧ s'.code = 0 ∧ s'.seen = seenAt e tx st (d + sh) ∧ s'.mark = IntKind.i64.wrap (mk : Int) ∧ S' = S.set 1 (3 + j) 0 ∧ xs.length = actsFrom e tx st d sh + 1
  | 0, sh, k, blk, key, x, xs, S', s', m, hd, h, hst, hm => by
    have hse : (sh : Int) = c.shelves := by omega
    have ha : viewRout.act (vw2 c s mk k sh blk key x (seenAt e tx st sh)) = (⟨2, 1, ((3 + j : Nat) : Int), 0, 0, ByteArray.empty⟩, true) := by
      have := vw2_end (s := s) (m := mk) (k := k) (blk := blk) (key := key) (x := x) (seen := seenAt e tx st sh) hse
      rw [hpi, show (3 : Int) + (j : Int) = ((3 + j : Nat) : Int) by omega] at this
      exact this
    obtain ⟨r, l, rfl, hr2, hs2⟩ := run_one ha (ready_store _ _ _) h hst (by omega)
    have hat := hL.pins j hj
    rw [hat.store 0 r] at hr2
    obtain ⟨g, hg⟩ : ∃ g, g = (⟨0, ByteArray.empty⟩ : PGot) := ⟨_, rfl⟩
    have h6 : ∀ g, (PView.take (vw2 c s mk k sh blk key x (seenAt e tx st sh)) g) = ⟨c, 6, IntKind.i64.wrap (IntKind.i64.wrap (k : Int) + 1), s, s.pin, s.epoch, false, sh, blk, key, x, seenAt e tx st sh, 0, IntKind.i64.wrap (mk : Int)⟩ := fun g => by
      unfold PView.take
      simp [vw2, hse]
    have h7 := hr2
    rw [show viewRout.take = PView.take from rfl, h6] at h7
    obtain ⟨rfl, rfl, rfl⟩ := run_end (Rt := viewRout) rfl h7
    refine ⟨rfl, rfl, ?_, rfl, rfl, rfl⟩
    rw [Nat.zero_add]
  | d + 1, sh, k, blk, key, x, xs, S', s', m, hd, h, hst, hm => by
    have hlt : (sh : Int) < c.shelves := by omega
    have hne : (sh : Int) ≠ c.shelves := by omega
    have hk := kcell_eq hc sh
    have hmul : ((d : Int) + 1) * (4 + 2 * L) = d * (4 + 2 * L) + 4 + 2 * L := by rw [Int.add_mul]; omega
    have hm' : (d : Int) * (4 + 2 * L) + 4 + 2 * L + 2 ≤ m := by
      have : ((d + 1 : Nat) : Int) = (d : Int) + 1 := by omega
      rw [this, hmul] at hm
      omega
    have hdl : (0 : Int) ≤ (d : Int) * (4 + 2 * L) := Int.mul_nonneg (by omega) (by omega)
    generalize hP : (d : Int) * (4 + 2 * L) = P at *
    have ha : viewRout.act (vw2 c s mk k sh blk key x (seenAt e tx st sh)) = (⟨1, 1, (kcell c sh : Nat), 0, 0, ByteArray.empty⟩, true) := by
      have := vw2_act (s := s) (m := mk) (k := k) (blk := blk) (key := key) (x := x) (seen := seenAt e tx st sh) hne
      rw [hk]
      exact this
    obtain ⟨r, l, rfl, hr2, hs2⟩ := run_one ha (ready_load _ _) h hst (by omega)
    obtain ⟨v, hv, hv0, hv1⟩ := hL.shelved.at_ sh hlt
    rw [hv.load r] at hr2
    have htk : viewRout.take (vw2 c s mk k sh blk key x (seenAt e tx st sh)) ⟨v, ByteArray.empty⟩ = if v = 0 then vw2 c s mk (k + 1) (sh + 1) 0 key x (seenAt e tx st sh) else vw3 c s mk (k + 1) sh v key x (seenAt e tx st sh) := vw2_take hne _
    simp only [htk] at hr2
    have hdd : ((d + (sh + 1) : Nat) : Int) = c.shelves := by omega
    cases htx : tx sh with
    | none =>
      rw [if_pos (hv0 htx)] at hr2
      have hsn : seenAt e tx st (sh + 1) = seenAt e tx st sh := by
        show (match tx sh with | none => _ | some t => _) = _
        rw [htx]
      have h3 : Runs viewRout S (vw2 c s mk (k + 1) ((sh + 1 : Nat) : Int) 0 key x (seenAt e tx st (sh + 1))) l S' s' := by
        rw [hsn]
        exact hr2
      obtain ⟨k1, k2, k3, k4, k5, k6⟩ := view_run hc hL L hL100 hlen hj hpi hep d (sh + 1) hdd h3 hs2 (by omega)
      refine ⟨k1, k2, ?_, k4, k5, ?_⟩
      · rw [k3, show d + (sh + 1) = d + 1 + sh by omega]
      · show l.length + 1 = actsFrom e tx st (d + 1) sh + 1
        unfold actsFrom
        rw [htx, k6]
        simp only
        omega
    | some t =>
      obtain ⟨hv2, b, hb1, hb2⟩ := hv1 t htx
      have hvn : v ≠ 0 := by omega
      rw [if_neg hvn] at hr2
      have ha3 : viewRout.act (vw3 c s mk (k + 1) sh v key x (seenAt e tx st sh)) = (⟨6, v, 0, 0, 0, ByteArray.empty⟩, true) := rfl
      obtain ⟨r3, l3, rfl, hr3, hs3⟩ := run_one ha3 (ready_words _ _) hr2 hs2 (by omega)
      rw [act_words hb1, hb2] at hr3
      have htk3 : viewRout.take (vw3 c s mk (k + 1) sh v key x (seenAt e tx st sh)) ⟨0, t⟩ = (vw4 c s mk sh v t (seenAt e tx st sh) (k + 1 + 1) (newChain (3 + c.pins + c.cap + 2 * (sh : Int) + 1) s.epoch)).settle4 := vw3_take _ _ _ _ _ _ _ _ _ _
      simp only [htk3] at hr3
      have hcell : 3 + c.pins + c.cap + 2 * (sh : Int) + 1 = ((kcell c sh + 1 : Nat) : Int) := by omega
      rw [hcell, hep] at hr3
      have W4 : Within chainRout.act chainRout.take viewRout.act viewRout.take (fun k x => (vw4 c s mk sh v t (seenAt e tx st sh) k x).settle4) := vwithin4 c s mk sh v t (seenAt e tx st sh)
      obtain ⟨z1, z2, S3, y, rfl, t1, t2, d3⟩ := runs_split W4 l3 (k + 1 + 1) _ hr3
      have st3 := split_stop W4 t2 d3 hs3
      obtain ⟨u, hu1, hu2, hu3⟩ := hL.stack sh hlt
      have hlp := hlen sh
      obtain ⟨hn3, hS3, hx6, hxr, _⟩ := chain_alone hu1 hu2 (by omega) t1 st3 (by omega)
      have hrl := readV_le e (st sh) 0
      have hst4 := rest_stop hs3
      have hxv : y.has = (readV e (st sh) 0).1.1 ∧ y.text = (readV e (st sh) 0).1.2.1 := by
        unfold PChain.result at hxr
        rw [if_pos hx6] at hxr
        injection hxr with h2 _
        exact ⟨congrArg (·.1) h2, congrArg (·.2.1) h2⟩
      rw [vw4_done hx6, hxv.1, hxv.2, hS3] at t2
      have hsn : seenAt e tx st (sh + 1) = if (readV e (st sh) 0).1.1 then putM (seenAt e tx st sh) t (readV e (st sh) 0).1.2.1 else seenAt e tx st sh := by
        show (match tx sh with | none => _ | some t => _) = _
        rw [htx]
      rw [← hsn] at t2
      obtain ⟨k1, k2, k3, k4, k5, k6⟩ := view_run hc hL L hL100 hlen hj hpi hep d (sh + 1) hdd t2 hst4 (by simp only at hn3; omega)
      refine ⟨k1, k2, ?_, k4, k5, ?_⟩
      · rw [k3, show d + (sh + 1) = d + 1 + sh by omega]
      · show (z1 ++ z2).length + 1 + 1 = actsFrom e tx st (d + 1) sh + 1
        unfold actsFrom
        rw [htx, List.length_append, k6]
        simp only at hn3 ⊢
        omega
/-- What is seen is what the pairs tell. -/
theorem seen_know {c : PCfg} {tx : Nat → Option ByteArray} {st : Nat → List PVersion} {e : Int} {m : List (ByteArray × ByteArray)} (h : Know c tx st e m) : ∀ (n : Nat) (t : ByteArray), ((∃ p, p < n ∧ tx p = some t) ∧ getP (seenAt e tx st n) t = getP m t) ∨ ((∀ p, p < n → tx p ≠ some t) ∧ getP (seenAt e tx st n) t = (false, ByteArray.empty))
  | 0, t => .inr ⟨fun p hp => by omega, rfl⟩
  | n + 1, t => by
    have ih := seen_know h n t
    cases htx : tx n with
    | none =>
      have e1 : seenAt e tx st (n + 1) = seenAt e tx st n := by
        show (match tx n with | none => _ | some t => _) = _
        rw [htx]
      rw [e1]
      rcases ih with ⟨⟨p, h1, h2⟩, h3⟩ | ⟨h1, h2⟩
      · exact .inl ⟨⟨p, by omega, h2⟩, h3⟩
      · refine .inr ⟨fun p hp => ?_, h2⟩
        by_cases hpn : p = n
        · rw [hpn, htx]; simp
        · exact h1 p (by omega)
    | some u =>
      have e1 : seenAt e tx st (n + 1) = if (readV e (st n) 0).1.1 then putM (seenAt e tx st n) u (readV e (st n) 0).1.2.1 else seenAt e tx st n := by
        show (match tx n with | none => _ | some t => _) = _
        rw [htx]
      rw [e1]
      have ht := h.told n u htx
      by_cases htu : t = u
      · subst htu
        refine .inl ⟨⟨n, by omega, htx⟩, ?_⟩
        cases hh : (readV e (st n) 0).1.1 with
        | true =>
          rw [if_pos rfl, putM_get, if_pos rfl, ← ht, hh]
        | false =>
          rw [hh] at ht
          have h2 : getP m t = (false, ByteArray.empty) := getP_none _ _ (by rw [← ht])
          rw [if_neg (by decide), h2]
          rcases ih with ⟨_, h3⟩ | ⟨_, h3⟩
          · rw [h3, h2]
          · exact h3
      · have e2 : getP (if (readV e (st n) 0).1.1 then putM (seenAt e tx st n) u (readV e (st n) 0).1.2.1 else seenAt e tx st n) t = getP (seenAt e tx st n) t := by
          split
          · rw [putM_get, if_neg htu]
          · rfl
        rw [e2]
        rcases ih with ⟨⟨p, h1, h2⟩, h3⟩ | ⟨h1, h2⟩
        · exact .inl ⟨⟨p, by omega, h2⟩, h3⟩
        · refine .inr ⟨fun p hp => ?_, h2⟩
          by_cases hpn : p = n
          · rw [hpn, htx]
            intro hh
            injection hh with hh
            exact htu hh.symm
          · exact h1 p (by omega)
theorem seen_get {c : PCfg} (hc : c.Right) {tx : Nat → Option ByteArray} {st : Nat → List PVersion} {e : Int} {m : List (ByteArray × ByteArray)} (h : Know c tx st e m) (t : ByteArray) : getP (putAll [] (seenAt e tx st c.shelves.toNat)) t = getP m t := by
  rw [putAll_get t (seen_nodup e tx st _)]
  have hg : getP (seenAt e tx st c.shelves.toNat) t = getP m t := by
    rcases seen_know h c.shelves.toNat t with ⟨_, h1⟩ | ⟨h1, h2⟩
    · exact h1
    · rw [h2]
      refine (h.none_ t fun p hp => ?_).symm
      have h3 := h.at_ p t hp
      rcases look_kind (key := t) (pl := plN c t) (tx := tx) c.shelves.toNat 0 with ⟨_, q, h4, _, i, h5⟩ | h4 | ⟨h4, _⟩
      · have : q = p := by rw [h3.2] at h4; omega
        have h6 := (plN_eq hc t i).2
        rw [← h5, this] at h6
        exact h1 p (by omega) hp
      · rw [h3.1] at h4; cases h4
      · rw [h3.1] at h4; cases h4
  rw [hg]
  split
  · rfl
  · rename_i hn
    rw [getP_none m t (by simpa using hn)]
    rfl
theorem del_rises (k : ByteArray) {m : List (ByteArray × ByteArray)} (h : Rises m) : Rises (delP m k) := List.Pairwise.filter _ h
theorem seen_is {c : PCfg} (hc : c.Right) {tx : Nat → Option ByteArray} {st : Nat → List PVersion} {e : Int} {m : List (ByteArray × ByteArray)} (h : Know c tx st e m) (hr : Rises m) : putAll [] (seenAt e tx st c.shelves.toNat) = m := rises_ext (putAll_rises rises_nil) hr (seen_get hc h)
end Go.Proofs.YtmlnhjfdhjachaaGreat

/-
  How laying is made, what it tells (layer 30). No condition.
-/
namespace Go.Proofs.YtmlnhjfdhjachaaGreat
set_option linter.unusedVariables false
open Go.ChangeShapes Go.WideShapes Go.ChangeAt Go.RowKit
open Go.ChangeMaps (setBlock)

def newLay (c : PCfg) (ep : Int) (l : List PChange) : PLay := PLay.next ⟨c, ep, l, 0, newFind c ByteArray.empty, 0, 0, ⟨[], 0, 0⟩, 0, 0⟩
set_option maxRecDepth 100000 in
set_option maxHeartbeats 4000000 in
theorem lnNew_at (c : PCfg) (hc : c.Right) (ep : Int) (hep : 0 ≤ ep ∧ ep ≤ 18446744073709551615) {w : World} (A : Option Addr) (n cap : Nat) (l : List PChange) (hl : l.length = n) (hn : n ≤ 1000) (hr : Reads w w.heap.size 3 A n (chL l)) (hk : ∀ ch ∈ l, ch.key.size ≤ 9223372036854775807 ∧ ch.value.size ≤ 1000) :
    Calls Tryz.prog 33 #[c.val, .int .u64 ep, .slice A n cap] w fun e w' => ∃ b, e = .returned (.pointer (some ⟨b, 0, none⟩)) ∧ RAt layRout w.heap.size w' b (newLay c ep l) ∧ Below w.heap.size w w' := by
  have hR := fun W => right_cfg c W
  rw [(PCfg.right_iff c).2 hc] at hR
  have hsh := hc.shelves
  have hnx : ∀ (W1 w2 W : World) (A' : Option Addr) (c' : Nat), Below w.heap.size w W1 → Below W1.heap.size W1 w2 → (∀ b, (W1.heap.size ≤ b → w2.heap.size ≤ b) → ChRow w2 (fun k => W1.heap.size ≤ k ∧ k < w2.heap.size) b A' n c' l) → Below w2.heap.size w2 W → ∀ b, w2.heap.size ≤ b → Blk W b 144 (PLay.cells ⟨c, ep, l, 0, newFind c ByteArray.empty, 0, 0, ⟨[], 0, 0⟩, 0, 0⟩ (.slice A' n c') (.pointer none) (.pointer none)) →
      Calls Tryz.prog 72 #[.pointer (some ⟨b, 0, none⟩)] W fun e w' => e = .returned (.tuple #[]) ∧ RAt layRout w.heap.size w' b (newLay c ep l) ∧ Below w.heap.size w w' := fun W1 w2 W A' c' h1 h2 h3 h4 b hb hB => by
    have hQ : In (fun k => w.heap.size ≤ k ∧ k < W.heap.size) W := fun k hk => hk.2
    have hs1 := h1.size
    have hs2 := h2.size
    have hs4 := h4.size
    have hbl := hB.lt
    have hrow := ((h3 b fun _ => hb).keep (w' := W) fun k hk => h4.block k hk.2).wide (Q' := fun k => w.heap.size ≤ k ∧ k < W.heap.size) fun k hk => ⟨by omega, by omega⟩
    refine (lnNext_in hQ ⟨by omega, hbl⟩ hB ⟨hc, hep, by show (0 : Int) ≤ 0 ∧ (0 : Int) ≤ 18446744073709551615; decide, by show (0 : Int) ≤ 0 ∧ 0 < c.shelves; omega, hk⟩ ⟨by decide, by omega⟩ ⟨_, _, _, rfl, hrow⟩).mono ?_
    rintro e w' ⟨rfl, g1, g2⟩
    have hW : Below w.heap.size w W := Below.next_ (Below.next_ h1 h2) h4
    refine ⟨rfl, ⟨_, ⟨hQ.nw g2.size, .inl ⟨by omega, hbl⟩, g1⟩, fun k hk => ?_⟩, hW.trans (g2.below (fun i hi => by omega) hW.size)⟩
    rcases hk with hk | hk
    · exact hk.1
    · omega
  have hCl : ∀ W : World, Below w.heap.size w W → Calls Tryz.prog 71 #[.slice A n cap] W _ := fun W hb => cloneCh_any A n cap l hl hn ((hr.below hb).more hb.size)
  have B1 := Blk.new w 24 #[.int .i64 c.cap, .int .i64 c.pins, .int .i64 c.shelves, .int .i64 c.queue, .int .i64 c.watchers, .int .u64 c.seed]
  have hz : Below w.heap.size w (w.alloc (.cells #[.int .i64 c.cap, .int .i64 c.pins, .int .i64 c.shelves, .int .i64 c.queue, .int .i64 c.watchers, .int .u64 c.seed] 24)) := (Below.refl _ _).alloc (Nat.le_refl _) _
  rw [show c.val = .agg #[.int .i64 c.cap, .int .i64 c.pins, .int .i64 c.shelves, .int .i64 c.queue, .int .i64 c.watchers, .int .u64 c.seed] from rfl] at *
  clear hc hep hl hn hr hk hsh
  generalize newLay c ep l = N at *
  replace B1 := Lib.hid B1
  replace hz := Lib.hid hz
  replace hR := Lib.hid hR
  replace hnx := Lib.hid hnx
  replace hCl := Lib.hid hCl
  go_enter Tryz.func33, Tryz.ntmps33
  go_wp2_with fail
  refine (hR.out _).mono ?_; rintro e w1 ⟨rfl, hb⟩
  have hz1 := nx hz.out (Nat.le_refl _) hb
  have B2 := B1.out.below hb (by simp)
  have hK : ∀ W1 : World, Below w1.heap.size w1 W1 → (fun W' : World => W'.cell? ⟨w.heap.size, 0, none⟩ = some (.int .i64 c.cap) ∧ W'.cell? ⟨w.heap.size, 1, none⟩ = some (.int .i64 c.pins) ∧ W'.cell? ⟨w.heap.size, 2, none⟩ = some (.int .i64 c.shelves) ∧ W'.cell? ⟨w.heap.size, 3, none⟩ = some (.int .i64 c.queue) ∧ W'.cell? ⟨w.heap.size, 4, none⟩ = some (.int .i64 c.watchers) ∧ W'.cell? ⟨w.heap.size, 5, none⟩ = some (.int .u64 c.seed)) W1 := fun W1 hb => ⟨(B2.below hb B2.lt).cell 0, (B2.below hb B2.lt).cell 1, (B2.below hb B2.lt).cell 2, (B2.below hb B2.lt).cell 3, (B2.below hb B2.lt).cell 4, (B2.below hb B2.lt).cell 5⟩
  have s1 := hK w1 (Below.refl _ _)
  clear hb B2
  replace hz1 := Lib.hid hz1
  replace hK := Lib.hid hK
  go_upto_region 3 with fail
  go_region_held3 (fun W' : World => W'.cell? ⟨w.heap.size, 0, none⟩ = some (.int .i64 c.cap) ∧ W'.cell? ⟨w.heap.size, 1, none⟩ = some (.int .i64 c.pins) ∧ W'.cell? ⟨w.heap.size, 2, none⟩ = some (.int .i64 c.shelves) ∧ W'.cell? ⟨w.heap.size, 3, none⟩ = some (.int .i64 c.queue) ∧ W'.cell? ⟨w.heap.size, 4, none⟩ = some (.int .i64 c.watchers) ∧ W'.cell? ⟨w.heap.size, 5, none⟩ = some (.int .u64 c.seed)) (first | assumption | go_keep) (first | (go_at_call 71; refine (hCl.out _ (by first | exact hz1.out | exact hz1.out.drew | exact below_drewN hz1.out _)).mono ?_; rintro e w2 ⟨A', c', rfl, hrow, hX⟩; have o2 : Below w1.heap.size w1 w2 := (by first | exact hX | exact (Below.refl _ _).drew.trans hX | exact (below_drewN (Below.refl _ _) _).trans hX); have hrow' : ∀ b, (w1.heap.size ≤ b → w2.heap.size ≤ b) → ChRow w2 (fun k => w1.heap.size ≤ k ∧ k < w2.heap.size) b A' n c' l := hrow; have s2 := hK.out _ o2; clear hX hrow; replace o2 := Lib.hid o2; replace hrow' := Lib.hid hrow'))
  all_goals
    clear s1
    go_wp2_with fail
    refine gen_world (α := fun W' => Calls Tryz.prog 72 _ W' _) (fun W' => Below w2.heap.size w2 W' ∧ Blk W' w2.heap.size 144 (PLay.cells ⟨c, ep, l, 0, newFind c ByteArray.empty, 0, 0, ⟨[], 0, 0⟩, 0, 0⟩ (.slice A' n c') (.pointer none) (.pointer none))) ⟨?_, ?_⟩ ?_
    · (repeat first | exact Below.refl _ _ | assumption | refine Below.drew ?_ | refine below_drewN ?_ _ | refine Below.more_ ?_ _ | refine Below.setCell ?_ (by first | exact Nat.le_refl _ | (simp; done) | (simp; omega)) _)
    · first | exact Blk.new w2 144 _ | exact Blk.new w2.drew 144 _ | exact (Blk.new w2 144 _).drew
    rintro W' ⟨g1, g2⟩
    have hn1 := hnx.out w1 w2 W' A' c' hz1.out o2.out hrow'.out g1 _ (Nat.le_refl _) g2
    replace hn1 := Lib.hid hn1
    replace g1 := Lib.hid g1
    replace g2 := Lib.hid g2
    refine (hn1.out).mono ?_; rintro e w3 ⟨rfl, hA, hb3⟩
    replace hA := Lib.hid hA
    replace hb3 := Lib.hid hb3
    go_wp2_with fail
    go_ret
    exact ⟨w2.heap.size, rfl, hA.out, hb3.out⟩
set_option maxRecDepth 100000 in
set_option maxHeartbeats 1000000 in
theorem lnAct_nil (w : World) : Calls Tryz.prog 70 #[.pointer none] w fun e w' => e = .returned (.tuple #[.agg #[.int .i64 0, .int .u64 0, .int .i64 0, .int .u64 0, .int .u64 0, .string ⟨#[]⟩], .bool false]) ∧ Below w.heap.size w w' := by
  go_enter Tryz.func70, Tryz.ntmps70
  go_wp2_with fail
  refine bodyPost_ret (v := .tuple #[.agg #[.int .i64 0, .int .u64 0, .int .i64 0, .int .u64 0, .int .u64 0, .string ⟨#[]⟩], .bool false]) (by simp [results, Tryz.results70, go_sem]) rfl ⟨rfl, ?_⟩
  (repeat first | exact Below.refl _ _ | assumption | refine Below.drew ?_ | refine below_drewN ?_ _ | refine Below.more_ ?_ _ | refine Below.setCell ?_ (by first | exact Nat.le_refl _ | (simp; done) | (simp; omega)) _)
set_option maxRecDepth 100000 in
set_option maxHeartbeats 1000000 in
theorem lnResult_any {w : World} {Q : Nat → Prop} {b : Nat} {s : PLay} (h : LnIn w Q b s) : Calls Tryz.prog 34 #[.pointer (some ⟨b, 0, none⟩)] w fun e w' => e = .returned (.tuple #[.int .i64 (if s.part = 8 then s.laid else 0), .bool (decide (s.part = 8))]) ∧ Below w.heap.size w w' := by
  obtain ⟨lv, fv, vv, hB, _, _⟩ := h
  obtain ⟨c, ep, l, part, find, fk, fs, ver, blk, laid⟩ := s
  have hB' := hB
  unfold PLay.cells at hB'
  simp only at hB' ⊢
  have c8 := hB'.cell 8
  have c14 := hB'.cell 14
  have hlt := hB'.lt
  replace hB := Lib.hid hB
  replace hB' := Lib.hid hB'
  by_cases h8 : part = 8
  · subst h8
    rw [if_pos rfl, decide_eq_true rfl]
    go_enter Tryz.func34, Tryz.ntmps34
    go_wp2_with fail
    go_ret2
    exact ⟨rfl, Below.refl _ _⟩
  · rw [if_neg h8, decide_eq_false h8]
    have d8 : (part == 8) = false := by simpa using h8
    replace h8 := Lib.hid h8
    go_enter Tryz.func34, Tryz.ntmps34
    go_wp2_with fail
    go_ret2
    exact ⟨rfl, Below.refl _ _⟩
end Go.Proofs.YtmlnhjfdhjachaaGreat

/-
  Laying changes alone (layer 30): what is seen at an epoch below. No condition.
-/
namespace Go.Proofs.YtmlnhjfdhjachaaGreat
set_option linter.unusedVariables false
open Go.ChangeShapes Go.WideShapes Go.ChangeAt Go.RowKit
open Go.ChangeMaps (setBlock)

/-- Shelves without a key have no version; rows are short; what is seen at an epoch is a given row. -/
structure JH (c : PCfg) (B : Nat) (ep a : Int) (see : Bool) (m : List (ByteArray × ByteArray)) (l : List PChange) (half : Option Nat) (n : Int) (tx : Nat → Option ByteArray) (st : Nat → List PVersion) : Prop where
  free : ∀ p, tx p = none → half ≠ some p → st p = []
  mid : ∀ p, half = some p → tx p = none ∧ ∃ v, st p = [v] ∧ v.epoch = ep
  len : ∀ j, (st j).length + l.length ≤ B + (if half.isSome then 1 else 0)
  seen : see = true → seenAt a tx st c.shelves.toNat = m
  zero : 0 ≤ n
theorem putS_len (st : Nat → List PVersion) (p : Nat) (v : PVersion) (j : Nat) : (putS st p v j).length ≤ (st j).length + 1 := by
  unfold putS
  split
  · exact Nat.le_refl _
  · omega
theorem JH.start {c : PCfg} {B : Nat} {ep a ep0 a0 : Int} {see0 : Bool} {m0 : List (ByteArray × ByteArray)} {B0 : Nat} {tx : Nat → Option ByteArray} {st : Nat → List PVersion} {n : Int} {l : List PChange} (h : JH c B0 ep0 a0 see0 m0 [] none n tx st) (hB : B0 + l.length ≤ B) : JH c B ep a true (seenAt a tx st c.shelves.toNat) l none 0 tx st :=
  ⟨h.free, fun p hp => (by cases hp), fun j => by have := h.len j; simp at this ⊢; omega, fun _ => rfl, Int.le_refl _⟩
/-- The start of a routine. -/
theorem lst_start {c : PCfg} (hc : c.Right) {ep : Int} {S : PHeap} {tx : Nat → Option ByteArray} {st : Nat → List PVersion} {pn : Nat → Int} {e : Int} {l : List PChange} (hok : LOk l) (hl : S.last + 2 * l.length ≤ 900000) : ∃ n, LSt c ep S tx st pn e (newLay c ep l) none n ∧ n ≤ 1 + 140 * l.length ∧ (newLay c ep l).laid = 0 ∧ (newLay c ep l).l = l ∧ (newLay c ep l).part ≠ 8 := by
  obtain ⟨n, h1, h2, h3, h4⟩ := lst_next (ep := ep) (S := S) (tx := tx) (st := st) (pn := pn) (e := e) (part := 0) (fk := 0) (fs := 0) (blk := 0) (laid := 0) (fd := newFind c ByteArray.empty) (ver := ⟨[], 0, 0⟩) hc hok (by omega)
  exact ⟨n, h1, h2, h3, h4, fun h => next_eight _ h⟩
end Go.Proofs.YtmlnhjfdhjachaaGreat

/-
  Pairs behind changes; blocks that are kept beside a heap of the call's own. No condition.
-/
namespace Go.Proofs.YtmlnhjfdhjachaaGreat
set_option linter.unusedVariables false
open Go.ChangeShapes Go.WideShapes Go.ChangeAt Go.RowKit
open Go.ChangeMaps (setBlock)

theorem OwnK.hold {w0 w : World} {hb : Nat} {S : PHeap} {F : Nat → Prop} {K : List (Nat × Obj)} (h : OwnK w0 hb S F K w) {g : Nat} {o : Obj} (hg : w.heap[g]? = some o) (hF : ¬ F g) : OwnK w0 hb S F ((g, o) :: K) w := ⟨h.own, fun x hx => by
  rcases List.mem_cons.1 hx with rfl | hx
  · exact ⟨hg, hF⟩
  · exact h.keep x hx⟩
theorem OwnK.sub {w0 w : World} {hb : Nat} {S : PHeap} {F : Nat → Prop} {K K' : List (Nat × Obj)} (h : OwnK w0 hb S F K w) (hs : ∀ x ∈ K', x ∈ K) : OwnK w0 hb S F K' w := ⟨h.own, fun x hx => h.keep x (hs x hx)⟩
/-- A new row takes the old one's place. -/
theorem OwnK.row {w0 w w' : World} {hb : Nat} {S : PHeap} {F : Nat → Prop} {a b : Nat × Obj} (h : OwnK w0 hb S F [a, b] w) {g : Nat} {o : Obj} (hb' : Below w.heap.size w w') (hg : w'.heap[g]? = some o) (hs : w.heap.size ≤ g) : OwnK w0 hb S F [(g, o), b] w' :=
  ((h.below hb').hold hg (fun hF => by have := h.own.heap.own _ hF; omega)).sub fun x hx => by
    simp only [List.mem_cons, List.not_mem_nil, or_false] at hx ⊢
    rcases hx with hx | hx
    · exact .inl hx
    · exact .inr (.inr hx)
/-- The pairs behind a change at an epoch. -/
def nextP (m : List (ByteArray × ByteArray)) (ch : PChange) (le : Bool) : List (ByteArray × ByteArray) :=
  if le then (if ch.has then putP (geP ch.key) ch.key ch.value m false else delP m ch.key) else m
theorem nextP_get (m : List (ByteArray × ByteArray)) (ch : PChange) (le : Bool) (t : ByteArray) : getP (nextP m ch le) t = if t = ch.key ∧ le = true then (ch.has, if ch.has then ch.value else ByteArray.empty) else getP m t := by
  unfold nextP
  cases le with
  | false => simp
  | true =>
    cases hh : ch.has with
    | true =>
      simp only [if_true]
      rw [getP_put]
      by_cases ht : t = ch.key
      · simp [ht]
      · simp [ht]
    | false =>
      simp only [if_true, Bool.false_eq_true, if_false]
      rw [getP_del]
      by_cases ht : t = ch.key
      · simp [ht]
      · simp [ht]
theorem nextP_len (m : List (ByteArray × ByteArray)) (ch : PChange) (le : Bool) : (nextP m ch le).length ≤ m.length + 1 := by
  unfold nextP
  split
  · split
    · exact putP_len _ _ _ _ _
    · have : (delP m ch.key).length ≤ m.length := List.length_filter_le _ _
      omega
  · omega
def cfgO (c : PCfg) : Obj := Obj.cells #[.int .i64 c.cap, .int .i64 c.pins, .int .i64 c.shelves, .int .i64 c.queue, .int .i64 c.watchers, .int .u64 c.seed] 24
theorem al1_below {w w1 wr : World} {hb : Nat} {S : PHeap} {F : Nat → Prop} {K : List (Nat × Obj)} (hz : Below w.heap.size w w1) (o : OwnK w1 hb S F K wr) : Below w.heap.size w wr := hz.trans (o.own.below.mono hz.size)
end Go.Proofs.YtmlnhjfdhjachaaGreat
