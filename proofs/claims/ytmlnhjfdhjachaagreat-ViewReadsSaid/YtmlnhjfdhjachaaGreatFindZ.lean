import Derived.Test.YtmlnhjfdhjachaaGreatFindN
import Derived.Test.YtmlnhjfdhjachaaGreatRing
import Derived.Test.YtmlnhjfdhjachaaGreatTapeD
import Derived.Test.YtmlnhjfdhjachaaGreatPinZ
/-
  The document's looking for a key's shelf on a tape (layer 23). No condition.
-/
namespace Go.Proofs.YtmlnhjfdhjachaaGreat
set_option linter.unusedVariables false
open Go.ChangeShapes Go.WideShapes Go.ChangeAt Go.RowKit
open Go.ChangeMaps (setBlock)

/-- What the document answers, by the routine. -/
def FindPost (s0 : PFind) (Q : List PGot) (w : World) (tb : Nat) (A : Option Addr) (cc : Nat) (e : Ending) (w' : World) : Prop :=
  ∃ T', e = .returned (.agg #[.int .i64 (feed PFind.take s0 Q).result.1.1, .int .i64 (feed PFind.take s0 Q).result.1.2]) ∧ TapeIn w' tb A cc T' ∧
    T'.over = (feed PFind.take s0 Q).act.2 ∧ T'.act = (feed PFind.take s0 Q).act.1 ∧ Chg (fun k => k = tb) w w'
/-- Where it stands: at the k-th place; with a block, or none. -/
def findAt (c : PCfg) (key : ByteArray) (k : Nat) (blk : Int) : PFind := ⟨c, key, sumP c.seed key, k, blk, 0, 0, true⟩
def findEnd (c : PCfg) (key : ByteArray) (k : Nat) (blk kind shelf : Int) : PFind := ⟨c, key, sumP c.seed key, k, blk, kind, shelf, true⟩
theorem findAt_act0 (c : PCfg) (key : ByteArray) (k : Nat) : (findAt c key k 0).act = (⟨1, 1, 3 + c.pins + c.cap + 2 * placeP (sumP c.seed key) c.shelves k, 0, 0, ByteArray.empty⟩, true) := by
  simp [PFind.act, PFind.idle, findAt, PFind.place]
theorem findAt_act (c : PCfg) (key : ByteArray) (k : Nat) (b : Int) (hb : b ≠ 0) : (findAt c key k b).act = (⟨6, b, 0, 0, 0, ByteArray.empty⟩, true) := by
  simp [PFind.act, PFind.idle, findAt, hb]
theorem findEnd_act (c : PCfg) (key : ByteArray) (k : Nat) (b kd sh : Int) (hk : kd ≠ 0) : (findEnd c key k b kd sh).act = (noAct, false) := by
  simp [PFind.act, PFind.idle, findEnd, hk]
theorem findEnd_take (c : PCfg) (key : ByteArray) (k : Nat) (b kd sh : Int) (hk : kd ≠ 0) (g : PGot) : (findEnd c key k b kd sh).take g = findEnd c key k b kd sh := by
  simp [PFind.take, PFind.idle, findEnd, hk]
theorem findEnd_result (c : PCfg) (key : ByteArray) (k : Nat) (b kd sh : Int) (hk : kd ≠ 0) : (findEnd c key k b kd sh).result = ((kd, sh), true) := by
  simp [PFind.result, findEnd, hk]
theorem findAt_result (c : PCfg) (key : ByteArray) (k : Nat) (b : Int) : (findAt c key k b).result = ((0, 0), false) := by simp [PFind.result, findAt]
theorem findAt_take0 (c : PCfg) (key : ByteArray) (k : Nat) (g : PGot) : (findAt c key k 0).take g = if g.word = 0 then findEnd c key k 0 2 (placeP (sumP c.seed key) c.shelves k) else findAt c key k g.word := by
  simp [PFind.take, PFind.idle, findAt, findEnd, PFind.place]
theorem findAt_take (c : PCfg) (key : ByteArray) (k : Nat) (b : Int) (hb : b ≠ 0) (g : PGot) : (findAt c key k b).take g = if g.text = key then findEnd c key k b 1 (placeP (sumP c.seed key) c.shelves k) else if (k : Int) + 1 = c.shelves then findEnd c key (k + 1) 0 3 0 else findAt c key (k + 1) 0 := by
  simp [PFind.take, PFind.idle, findAt, findEnd, PFind.place, hb]
  rfl
theorem newFind_at (c : PCfg) (hc : c.Right) (key : ByteArray) : newFind c key = findAt c key 0 0 := by
  unfold newFind findAt
  rw [(PCfg.right_iff c).2 hc]
  rfl
theorem find_ended {s0 s : PFind} {Q : List PGot} {T : PTape} (h : Ended PFind.act PFind.take s0 Q T) (hs : feed PFind.take s0 Q = s) (hr : s.result = ((0, 0), false)) {w w' : World} {tb cc : Nat} {A : Option Addr} (hT : TapeIn w' tb A cc T) (hC : Chg (fun k => k = tb) w w') :
    FindPost s0 Q w tb A cc (.returned (.agg #[.int .i64 0, .int .i64 0])) w' :=
  ⟨T, by rw [hs, hr], hT, by rw [h.act]; exact h.over, by rw [h.act], hC⟩
theorem find_fed {c : PCfg} {key : ByteArray} {k : Nat} {b kd sh : Int} (hk : kd ≠ 0) {s0 : PFind} {Q : List PGot} {T : PTape} (h : Fed PFind.take s0 Q T (findEnd c key k b kd sh)) {w w' : World} {tb cc : Nat} {A : Option Addr} (hT : TapeIn w' tb A cc T) (hC : Chg (fun k => k = tb) w w') :
    FindPost s0 Q w tb A cc (.returned (.agg #[.int .i64 kd, .int .i64 sh])) w' := by
  have hd := h.done fun g => findEnd_take c key k b kd sh hk g
  exact ⟨T, by rw [hd, findEnd_result _ _ _ _ _ _ hk], hT, by rw [hd, findEnd_act _ _ _ _ _ _ hk]; exact h.over, by rw [hd, findEnd_act _ _ _ _ _ _ hk]; exact h.act, hC⟩
end Go.Proofs.YtmlnhjfdhjachaaGreat

/-
  The document's looking for a key on a tape from some place on (layer 23). No condition.
-/
namespace Go.Proofs.YtmlnhjfdhjachaaGreat
set_option linter.unusedVariables false
open Go.ChangeShapes Go.WideShapes Go.ChangeAt Go.RowKit
open Go.ChangeMaps (setBlock)

/-- What the document's looking leaves. -/
def FindPostZ (a0 : Nat) (c : PCfg) (s0 : PFind) (Q : List PGot) (w : World) (tb : Nat) (A : Option Addr) (cc : Nat) (e : Ending) (w' : World) : Prop :=
  ∃ T' kd sh, e = .returned (.agg #[.int .i64 kd, .int .i64 sh]) ∧ TapeIn w' tb A cc T' ∧ Chg (fun k => k = tb) w w' ∧
    ((EndedA a0 PFind.act PFind.take s0 Q T' ∧ kd = 0) ∨ ∃ s, FedA a0 PFind.act PFind.take s0 Q T' s ∧ s.kind = kd ∧ s.shelf = sh ∧ kd ≠ 0 ∧ (kd = 1 → 0 ≤ sh ∧ sh < c.shelves))
theorem find_endedZ {a0 : Nat} {c : PCfg} {s0 : PFind} {Q : List PGot} {T : PTape} (h : EndedA a0 PFind.act PFind.take s0 Q T) {w w' : World} {tb cc : Nat} {A : Option Addr} (hT : TapeIn w' tb A cc T) (hC : Chg (fun k => k = tb) w w') :
    FindPostZ a0 c s0 Q w tb A cc (.returned (.agg #[.int .i64 0, .int .i64 0])) w' := ⟨T, 0, 0, rfl, hT, hC, .inl ⟨h, rfl⟩⟩
theorem find_fedZ {a0 : Nat} {c : PCfg} {key : ByteArray} {k : Nat} {b kd sh : Int} (hk : kd ≠ 0) (hr : kd = 1 → 0 ≤ sh ∧ sh < c.shelves) {s0 : PFind} {Q : List PGot} {T : PTape} (h : FedA a0 PFind.act PFind.take s0 Q T (findEnd c key k b kd sh)) {w w' : World} {tb cc : Nat} {A : Option Addr} (hT : TapeIn w' tb A cc T) (hC : Chg (fun k => k = tb) w w') :
    FindPostZ a0 c s0 Q w tb A cc (.returned (.agg #[.int .i64 kd, .int .i64 sh])) w' := ⟨T, kd, sh, rfl, hT, hC, .inr ⟨_, h, rfl, rfl, hk, hr⟩⟩
end Go.Proofs.YtmlnhjfdhjachaaGreat
