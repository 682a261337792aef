import Derived.Test.YtfelkkbgbgnpaaaShelfN
import Derived.Test.YtfelkkbgbgnpaaaTapeD
import Derived.Test.YtfelkkbgbgnpaaaAlone
import Derived.BigQuiet
/-
  The routine that makes a version, and the document's one: side by side (the plain law). No condition.
-/
namespace Go.Proofs.Ytfelkkbgbgnpaaa
set_option linter.unusedVariables false
open Go.ChangeShapes Go.WideShapes Go.ChangeAt Go.RowKit
open Go.ChangeMaps (setBlock)

def storeL (b : Int) (T : PTape) (l : List PAct) : PTape := l.foldl (fun T x => (T.doAct { x with block := b }).2) T
theorem PVer.take_done (s : PVer) (h : s.at_ = s.todo.length) (g : PGot) : s.take g = s := by simp [PVer.take, h]
theorem PVer.act_done (s : PVer) (h : s.at_ = s.todo.length) : s.act = (noAct, false) := by simp [PVer.act, h]
theorem PVer.result_on (s : PVer) (h : s.act.2 = true) : s.result = (0, false) := by
  unfold PVer.act at h
  cases hx : s.todo[s.at_]? with
  | none => rw [hx] at h; cases h
  | some x =>
    have := (List.getElem?_eq_some_iff.mp hx).1
    simp [PVer.result, this]
theorem storeL_ended {s0 : PVer} {Q : List PGot} {b : Int} : ∀ (l : List PAct) {T : PTape}, Ended PVer.act PVer.take s0 Q T → storeL b T l = T
  | [], T, h => rfl
  | x :: l, T, h => by
    show storeL b (T.doAct _).2 l = T
    rw [h.go]
    exact storeL_ended l h
theorem storeL_fed {s0 : PVer} {Q : List PGot} {todo : List PAct} {b : Int} (hb : b ≠ 0) : ∀ (l : List PAct) (k : Nat) {T : PTape}, 0 < k → todo.drop k = l → k ≤ todo.length → Fed PVer.take s0 Q T ⟨todo, k, b⟩ →
    Ended PVer.act PVer.take s0 Q (storeL b T l) ∨ Fed PVer.take s0 Q (storeL b T l) ⟨todo, todo.length, b⟩
  | [], k, T, h0, h, hk, hF => by
    have e : k = todo.length := by
      have := congrArg List.length h
      simp at this
      omega
    subst e
    exact .inr hF
  | x :: l, k, T, h0, h, hk, hF => by
    have hx : todo[k]? = some x := by
      have := congrArg (·[0]?) h
      simpa using this
    have hkl : k < todo.length := (List.getElem?_eq_some_iff.mp hx).1
    have ha : PVer.act ⟨todo, k, b⟩ = ({ x with block := b }, true) := by simp [PVer.act, hx, h0]
    have hd : todo.drop (k + 1) = l := by
      have := congrArg (List.drop 1) h
      simpa using this
    rcases hF.go ha with ⟨g, hg, e, hF'⟩ | ⟨e, hE⟩
    · have ht : PVer.take ⟨todo, k, b⟩ g = ⟨todo, k + 1, b⟩ := by
        have h1 : k ≠ todo.length := by omega
        have h2 : k ≠ 0 := by omega
        simp [PVer.take, h1, h2, hb]
      rw [ht] at hF'
      show Ended _ _ s0 Q (storeL b (T.doAct _).2 l) ∨ Fed _ s0 Q (storeL b (T.doAct _).2 l) _
      rw [e]
      exact storeL_fed hb l (k + 1) (by omega) hd (by omega) hF'
    · left
      show Ended _ _ s0 Q (storeL b (T.doAct _).2 l)
      rw [e, storeL_ended l hE]
      exact hE
theorem version_stores (T : PTape) (epoch next : Int) (c : PChange) :
    T.version epoch next c = (let m := T.doAct ⟨5, 0, 3, 0, 0, if c.has then c.value else ByteArray.empty⟩
      if m.1.word = 0 then (0, m.2) else (m.1.word, storeL m.1.word m.2 ((verTodo epoch next c).drop 1))) := by
  obtain ⟨key, has, value⟩ := c
  unfold PTape.version
  by_cases hn : next = 0 <;> cases has <;> simp [verTodo, storeL, hn]
theorem version_fed (epoch next : Int) (c : PChange) (Q : List PGot) (T : PTape) (h1 : T.over = false) (h2 : T.at_ = 0) (h3 : T.act = noAct) (h4 : T.got = Q) :
    Ended PVer.act PVer.take (newVer epoch next c) Q (T.version epoch next c).2 ∨
    ((T.version epoch next c).2.over = false ∧ (T.version epoch next c).2.act = noAct ∧ (feed PVer.take (newVer epoch next c) Q).at_ = (feed PVer.take (newVer epoch next c) Q).todo.length ∧ (feed PVer.take (newVer epoch next c) Q).block = (T.version epoch next c).1) := by
  have d0 := Fed.start (take := PVer.take) (newVer epoch next c) Q T h1 h2 h3 h4
  have ha : PVer.act (newVer epoch next c) = (⟨5, 0, 3, 0, 0, if c.has then c.value else ByteArray.empty⟩, true) := rfl
  have hl : 2 ≤ (verTodo epoch next c).length := by simp [verTodo]
  rw [version_stores]
  rcases d0.go ha with ⟨g, hg, e, d1⟩ | ⟨e, hE⟩
  · rw [e]
    by_cases g0 : g.word = 0
    · right
      simp only [g0, if_true]
      have ht : PVer.take (newVer epoch next c) g = ⟨verTodo epoch next c, (verTodo epoch next c).length, 0⟩ := by
        simp [PVer.take, newVer, g0]
      rw [ht] at d1
      rw [d1.done (fun g => PVer.take_done _ rfl g)]
      exact ⟨h1, h3, rfl, rfl⟩
    · simp only [g0, if_false]
      have ht : PVer.take (newVer epoch next c) g = ⟨verTodo epoch next c, 1, g.word⟩ := by
        simp [PVer.take, newVer, g0]
        intro h
        rw [← h] at hl
        simp at hl
      rw [ht] at d1
      rcases storeL_fed g0 _ 1 (by omega) rfl (by omega) d1 with hE | hF
      · exact .inl hE
      · right
        rw [hF.done (fun g => PVer.take_done _ rfl g)]
        exact ⟨hF.over, hF.act, rfl, rfl⟩
  · left
    rw [e]
    simpa [noGot] using hE
end Go.Proofs.Ytfelkkbgbgnpaaa

/-
  The routine that makes a version (layer 22), as a routine. No condition.
-/
namespace Go.Proofs.Ytfelkkbgbgnpaaa
set_option linter.unusedVariables false
open Go.ChangeShapes Go.WideShapes Go.ChangeAt Go.RowKit
open Go.ChangeMaps (setBlock)

theorem VerIn.keep {w w' : World} {b ar c : Nat} {s : PVer} (h : VerIn w b ar c s) (hs : w.heap.size ≤ w'.heap.size) (hb : w'.heap[b]? = w.heap[b]?) (ha : w'.heap[ar]? = w.heap[ar]?) : VerIn w' b ar c s :=
  ⟨h.blk.keep hb, fun j u hu => (World.cell?_of_block ha).trans (h.got j u hu), Nat.lt_of_lt_of_le h.lt hs, h.ne, h.len, h.pos, h.at_, h.kinds⟩
theorem VerIn.below {w w' : World} {b ar c : Nat} {s : PVer} (h : VerIn w b ar c s) (hb : Below w.heap.size w w') : VerIn w' b ar c s := h.keep hb.size (hb.block _ h.blk.lt) (hb.block _ h.lt)
theorem verAct_any {w : World} {b ar c : Nat} {s : PVer} (h : VerIn w b ar c s) :
    Calls Try.prog 106 #[.pointer (some ⟨b, 0, none⟩)] w fun e w' => e = .returned (.tuple #[s.act.1.val, .bool s.act.2]) ∧ Below w.heap.size w w' := by
  cases hx : s.todo[s.at_]? with
  | some x => exact verAct_some h x hx
  | none =>
    have := List.getElem?_eq_none_iff.mp hx
    have := h.at_
    exact verAct_end h (by omega)
theorem PVer.take_todo (s : PVer) (g : PGot) : (s.take g).todo = s.todo := by
  unfold PVer.take
  split <;> rfl
theorem PVer.take_block (s : PVer) (g : PGot) : (s.take g).block = s.block ∨ (s.take g).block = g.word := by
  unfold PVer.take
  split
  · exact .inl rfl
  · by_cases h : s.at_ = 0 <;> simp [h]
def VerR (w : World) (Q : Nat → Prop) (b : Nat) (s : PVer) : Prop :=
  In Q w ∧ Q b ∧ (∀ x ∈ s.todo, x.Ok) ∧ (0 ≤ s.block ∧ s.block ≤ 18446744073709551615) ∧ ∃ ar c, Q ar ∧ VerIn w b ar c s
theorem noAct_ok : noAct.Ok := ⟨by decide, by decide, by decide, by decide, by decide, by decide⟩
def verRout : Rout PVer where
  T := 182
  fAct := 106
  fTake := 195
  mAct := fun _ _ => by kernel_rfl
  mTake := fun _ _ => by kernel_rfl
  nAct := fun _ _ => by kernel_rfl
  nTake := fun _ _ => by kernel_rfl
  eAct := fun _ _ => by kernel_rfl
  eTake := fun _ _ => by kernel_rfl
  R := VerR
  own := fun h => h.1
  hG := fun h => h.2.1
  keep := fun ⟨h1, h2, h3, h4, ar, c, h5, h6⟩ hs hk => ⟨h1.mono hs, h2, h3, h4, ar, c, h5, h6.keep hs (hk _ h2) (hk _ h5)⟩
  act := PVer.act
  take := PVer.take
  okA := fun {w G b s} ⟨_, _, h3, h4, _⟩ => by
    unfold PVer.act
    cases hx : s.todo[s.at_]? with
    | none => exact noAct_ok
    | some x =>
      have := h3 x (List.mem_of_getElem? hx)
      by_cases h0 : 0 < s.at_
      · simp only [h0, if_true]
        exact ⟨this.kind, h4, this.cell, this.old, this.new, this.text⟩
      · simp only [h0, if_false]
        exact this
  cAct := fun ⟨_, _, _, _, _, _, _, h⟩ => verAct_any h
  cTake := fun {w G b s} g ⟨h1, h2, h3, h4, ar, c, h5, h6⟩ hg _ => (verTake_any h6 g).mono fun e w' ⟨he, hv, hc⟩ =>
    ⟨he, ⟨h1.nw hc.size, .inl h2, by rw [PVer.take_todo]; exact h3, by rcases PVer.take_block s g with e | e <;> rw [e] <;> assumption, ar, c, .inl h5, hv⟩, hc.mono fun i hi => by rw [hi]; exact h2⟩
theorem verNew_ok (epoch next : Int) (c : PChange) (he : 0 ≤ epoch ∧ epoch ≤ 18446744073709551615) (hn : 0 ≤ next ∧ next ≤ 18446744073709551615) (hc : c.value.size ≤ 1000) : ∀ x ∈ (newVer epoch next c).todo, x.Ok := by
  have k5 : (-9223372036854775808 : Int) ≤ 5 ∧ (5 : Int) ≤ 9223372036854775807 := by decide
  have k3 : (-9223372036854775808 : Int) ≤ 3 ∧ (3 : Int) ≤ 9223372036854775807 := by decide
  have k2 : (-9223372036854775808 : Int) ≤ 2 ∧ (2 : Int) ≤ 9223372036854775807 := by decide
  have k1 : (-9223372036854775808 : Int) ≤ 1 ∧ (1 : Int) ≤ 9223372036854775807 := by decide
  have k0 : (-9223372036854775808 : Int) ≤ 0 ∧ (0 : Int) ≤ 9223372036854775807 := by decide
  have z : (0 : Int) ≤ 0 ∧ (0 : Int) ≤ 18446744073709551615 := by decide
  have hE : ByteArray.empty.size ≤ 9223372036854775807 := by decide
  have ht : (if c.has then c.value else ByteArray.empty).size ≤ 9223372036854775807 := by split <;> omega
  intro x hx
  simp only [newVer, verTodo, List.mem_cons, List.mem_append] at hx
  rcases hx with rfl | rfl | hx | hx
  · exact ⟨k5, z, k3, z, z, ht⟩
  · exact ⟨k2, z, k0, z, he, hE⟩
  · split at hx
    · simp at hx
    · simp at hx; subst hx; exact ⟨k2, z, k1, z, hn, hE⟩
  · split at hx
    · simp at hx; subst hx; exact ⟨k2, z, k2, z, by decide, hE⟩
    · simp at hx
/-- The example's change. -/
def chK : PChange := ⟨⟨#[107]⟩, false, ByteArray.empty⟩
theorem awake22_runs {xs : List (PAct × PGot)} {S' : PHeap} {s' : PVer} (h : Runs verRout ⟨[], 0, false, 0⟩ (newVer 2 0 chK) xs S' s') (h1 : (9 : Int) ≤ (xs.length : Nat) ∨ verRout.can S' s' = false) :
    xs.length = 2 ∧ (∃ r, S' = ⟨[⟨1, r, [2, 0, 0], ByteArray.empty⟩], 1, false, 0⟩) ∧ s' = ⟨verTodo 2 0 chK, 2, 1⟩ := by
  match xs, h with
  | [], h =>
    obtain ⟨rfl, rfl⟩ := h
    rcases h1 with h1 | h1
    · simp at h1
    · cases h1.symm.trans (show verRout.can _ _ = true by kernel_rfl)
  | [x], h =>
    obtain ⟨_, r, rfl, rfl, rfl⟩ := h
    rcases h1 with h1 | h1
    · simp at h1
    · cases h1.symm.trans (show verRout.can _ _ = true by kernel_rfl)
  | [x, y], h =>
    obtain ⟨_, r, rfl, _, r2, rfl, rfl, rfl⟩ := h
    exact ⟨rfl, ⟨r, by kernel_rfl⟩, by kernel_rfl⟩
  | x :: y :: z :: l, h =>
    obtain ⟨_, r, rfl, _, r2, rfl, h3, _⟩ := h
    cases h3.symm.trans (show verRout.can _ _ = false by kernel_rfl)
set_option maxHeartbeats 1000000 in
theorem verResult_nil (w : World) : Calls Try.prog 132 #[.pointer none] w fun e w' => e = .returned (.tuple #[.int .u64 0, .bool false]) ∧ Below w.heap.size w w' := by
  go_enter Try.func132, Try.ntmps132
  go_wp2_with fail
  go_quiet (fail)
  go_wp2_with fail
  exact bodyPost_ret (v := .tuple #[.int .u64 0, .bool false]) (by simp [results, Try.results132, go_sem]) rfl ⟨rfl, below_drewN (Below.refl _ _) _⟩
end Go.Proofs.Ytfelkkbgbgnpaaa
