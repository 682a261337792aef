/-
  The routine that makes a version (layer 22), as a routine. No condition.
-/
import Derived.Test.YtdmdkelmmlinlaaShelfP
import Derived.Test.YtdmdkelmmlinlaaAlone
import Derived.BigQuiet
namespace Go.Proofs.Ytdmdkelmmlinlaa
set_option linter.unusedVariables false
open Go.ChangeShapes Go.WideShapes Go.ChangeAt Go.RowKit
open Go.ChangeMaps (setBlock)

theorem VerIn.keep {w w' : World} {b ar c : Nat} {s : PVer} (h : VerIn w b ar c s) (hs : w.heap.size ≤ w'.heap.size) (hb : w'.heap[b]? = w.heap[b]?) (ha : w'.heap[ar]? = w.heap[ar]?) : VerIn w' b ar c s :=
  ⟨h.blk.keep hb, fun j u hu => (World.cell?_of_block ha).trans (h.got j u hu), Nat.lt_of_lt_of_le h.lt hs, h.ne, h.len, h.pos, h.at_, h.kinds⟩
theorem VerIn.below {w w' : World} {b ar c : Nat} {s : PVer} (h : VerIn w b ar c s) (hb : Below w.heap.size w w') : VerIn w' b ar c s := h.keep hb.size (hb.block _ h.blk.lt) (hb.block _ h.lt)
theorem verAct_any {w : World} {b ar c : Nat} {s : PVer} (h : VerIn w b ar c s) :
    Calls Try.prog 37 #[.pointer (some ⟨b, 0, none⟩)] w fun e w' => e = .returned (.tuple #[s.act.1.val, .bool s.act.2]) ∧ Below w.heap.size w w' := by
  cases hx : s.todo[s.at_]? with
  | some x => exact verAct_some h x hx
  | none =>
    have := List.getElem?_eq_none_iff.mp hx
    have := h.at_
    exact verAct_end h (by omega)
theorem PVer.take_todo (s : PVer) (g : PGot) : (s.take g).todo = s.todo := by
  unfold PVer.take
  split <;> rfl
theorem PVer.take_block (s : PVer) (g : PGot) : (s.take g).block = s.block ∨ (s.take g).block = g.word := by
  unfold PVer.take
  split
  · exact .inl rfl
  · by_cases h : s.at_ = 0 <;> simp [h]
def VerR (w : World) (Q : Nat → Prop) (b : Nat) (s : PVer) : Prop :=
  In Q w ∧ Q b ∧ (∀ x ∈ s.todo, x.Ok) ∧ (0 ≤ s.block ∧ s.block ≤ 18446744073709551615) ∧ ∃ ar c, Q ar ∧ VerIn w b ar c s
theorem noAct_ok : noAct.Ok := ⟨by decide, by decide, by decide, by decide, by decide, by decide⟩
def verRout : Rout PVer where
  T := 83
  fAct := 37
  fTake := 39
  mAct := fun _ _ => by kernel_rfl
  mTake := fun _ _ => by kernel_rfl
  nAct := fun _ _ => by kernel_rfl
  nTake := fun _ _ => by kernel_rfl
  eAct := fun _ _ => by kernel_rfl
  eTake := fun _ _ => by kernel_rfl
  R := VerR
  own := fun h => h.1
  hG := fun h => h.2.1
  keep := fun ⟨h1, h2, h3, h4, ar, c, h5, h6⟩ hs hk => ⟨h1.mono hs, h2, h3, h4, ar, c, h5, h6.keep hs (hk _ h2) (hk _ h5)⟩
  act := PVer.act
  take := PVer.take
  okA := fun {w G b s} ⟨_, _, h3, h4, _⟩ => by
    unfold PVer.act
    cases hx : s.todo[s.at_]? with
    | none => exact noAct_ok
    | some x =>
      have := h3 x (List.mem_of_getElem? hx)
      by_cases h0 : 0 < s.at_
      · simp only [h0, if_true]
        exact ⟨this.kind, h4, this.cell, this.old, this.new, this.text⟩
      · simp only [h0, if_false]
        exact this
  cAct := fun ⟨_, _, _, _, _, _, _, h⟩ => verAct_any h
  cTake := fun {w G b s} g ⟨h1, h2, h3, h4, ar, c, h5, h6⟩ hg => (verTake_any h6 g).mono fun e w' ⟨he, hv, hc⟩ =>
    ⟨he, ⟨h1.nw hc.size, .inl h2, by rw [PVer.take_todo]; exact h3, by rcases PVer.take_block s g with e | e <;> rw [e] <;> assumption, ar, c, .inl h5, hv⟩, hc.mono fun i hi => by rw [hi]; exact h2⟩
theorem verNew_ok (epoch next : Int) (c : PChange) (he : 0 ≤ epoch ∧ epoch ≤ 18446744073709551615) (hn : 0 ≤ next ∧ next ≤ 18446744073709551615) (hc : c.value.size ≤ 1000) : ∀ x ∈ (newVer epoch next c).todo, x.Ok := by
  have k5 : (-9223372036854775808 : Int) ≤ 5 ∧ (5 : Int) ≤ 9223372036854775807 := by decide
  have k3 : (-9223372036854775808 : Int) ≤ 3 ∧ (3 : Int) ≤ 9223372036854775807 := by decide
  have k2 : (-9223372036854775808 : Int) ≤ 2 ∧ (2 : Int) ≤ 9223372036854775807 := by decide
  have k1 : (-9223372036854775808 : Int) ≤ 1 ∧ (1 : Int) ≤ 9223372036854775807 := by decide
  have k0 : (-9223372036854775808 : Int) ≤ 0 ∧ (0 : Int) ≤ 9223372036854775807 := by decide
  have z : (0 : Int) ≤ 0 ∧ (0 : Int) ≤ 18446744073709551615 := by decide
  have hE : ByteArray.empty.size ≤ 9223372036854775807 := by decide
  have ht : (if c.has then c.value else ByteArray.empty).size ≤ 9223372036854775807 := by split <;> omega
  intro x hx
  simp only [newVer, verTodo, List.mem_cons, List.mem_append] at hx
  rcases hx with rfl | rfl | hx | hx
  · exact ⟨k5, z, k3, z, z, ht⟩
  · exact ⟨k2, z, k0, z, he, hE⟩
  · split at hx
    · simp at hx
    · simp at hx; subst hx; exact ⟨k2, z, k1, z, hn, hE⟩
  · split at hx
    · simp at hx; subst hx; exact ⟨k2, z, k2, z, by decide, hE⟩
    · simp at hx
/-- The example's change. -/
def chK : PChange := ⟨⟨#[107]⟩, false, ByteArray.empty⟩
theorem awake22_runs {xs : List (PAct × PGot)} {S' : PHeap} {s' : PVer} (h : Runs verRout ⟨[], 0, false, 0⟩ (newVer 2 0 chK) xs S' s') (h1 : (9 : Int) ≤ (xs.length : Nat) ∨ verRout.can S' s' = false) :
    xs.length = 2 ∧ (∃ r, S' = ⟨[⟨1, r, [2, 0, 0], ByteArray.empty⟩], 1, false, 0⟩) ∧ s' = ⟨verTodo 2 0 chK, 2, 1⟩ := by
  match xs, h with
  | [], h =>
    obtain ⟨rfl, rfl⟩ := h
    rcases h1 with h1 | h1
    · simp at h1
    · cases h1.symm.trans (show verRout.can _ _ = true by kernel_rfl)
  | [x], h =>
    obtain ⟨_, r, rfl, rfl, rfl⟩ := h
    rcases h1 with h1 | h1
    · simp at h1
    · cases h1.symm.trans (show verRout.can _ _ = true by kernel_rfl)
  | [x, y], h =>
    obtain ⟨_, r, rfl, _, r2, rfl, rfl, rfl⟩ := h
    exact ⟨rfl, ⟨r, by kernel_rfl⟩, by kernel_rfl⟩
  | x :: y :: z :: l, h =>
    obtain ⟨_, r, rfl, _, r2, rfl, h3, _⟩ := h
    cases h3.symm.trans (show verRout.can _ _ = false by kernel_rfl)
set_option maxHeartbeats 1000000 in
theorem verResult_nil (w : World) : Calls Try.prog 38 #[.pointer none] w fun e w' => e = .returned (.tuple #[.int .u64 0, .bool false]) ∧ Below w.heap.size w w' := by
  go_enter Try.func38, Try.ntmps38
  go_wp2_with fail
  go_quiet (fail)
  go_wp2_with fail
  exact bodyPost_ret (v := .tuple #[.int .u64 0, .bool false]) (by simp [results, Try.results38, go_sem]) rfl ⟨rfl, below_drewN (Below.refl _ _) _⟩
end Go.Proofs.Ytdmdkelmmlinlaa
