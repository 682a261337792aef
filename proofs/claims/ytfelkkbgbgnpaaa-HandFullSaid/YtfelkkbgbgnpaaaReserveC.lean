/-
  Reserving while others change the word (layer 28): the plain law. No condition.
-/
import Derived.Test.YtfelkkbgbgnpaaaReserveP
namespace Go.Proofs.Ytfelkkbgbgnpaaa
set_option linter.unusedVariables false
open Go.ChangeShapes Go.WideShapes Go.ChangeAt Go.RowKit
open Go.ChangeMaps (setBlock)

/-- How many acts it takes at most, alone; how many vain ones among them. -/
def PRes.left (s : PRes) (x : Int) : Nat := if s.over then 0 else if s.seen then (if s.was = x then 1 else 2) else 2
def PRes.late (s : PRes) (x : Int) : Nat := if s.over = false ∧ s.seen = true ∧ s.was ≠ x then 1 else 0
theorem look_left (s : PRes) (x : Int) (ho : s.over = false) : (s.look x).left x ≤ 1 ∧ (s.look x).late x = 0 ∧ ((s.look x).over = false → (s.look x).was = x ∧ (s.look x).seen = true) := by
  unfold PRes.look
  split
  · simp [PRes.left, PRes.late, ho]
  · simp [PRes.left, PRes.late]
structure Step28 (S : PHeap) (s : PRes) (x : Int) (S' : PHeap) (s' : PRes) (x' : Int) : Prop where
  ctl : CtlAt S' 1 x'
  left : s'.left x' + 1 ≤ s.left x
  late : s'.tries + s'.late x' ≤ s.tries + s.late x
  tries : s.tries ≤ s'.tries
  made : s'.made = true
  cfg : s'.cfg = s.cfg
  faults : S'.faults = S.faults
  last : S'.last = S.last
  word : x' = x ∨ x' = s.next
theorem res_step {S : PHeap} {s : PRes} {x : Int} (hw : CtlAt S 1 x) (hm : s.made = true) (ho : s.over = false) (ht : 0 ≤ s.tries ∧ s.tries ≤ 1000000) (r : Nat) :
    ∃ x', Step28 S s x (S.act s.act.1 r).2 (s.take (S.act s.act.1 r).1) x' := by
  have hid : s.idle = false := by simp [PRes.idle, hm, ho]
  have hwr : IntKind.i64.wrap (s.tries + 1) = s.tries + 1 := IntWalk.i64_in _ (by omega)
  cases hs : s.seen with
  | false =>
    have ha : s.act = (⟨1, 1, ((1 : Nat) : Int), 0, 0, ByteArray.empty⟩, true) := by simp [PRes.act, hid, hs]
    rw [ha, hw.load r]
    have htk : s.take ⟨x, ByteArray.empty⟩ = s.look x := by simp [PRes.take, hid, hs]
    rw [htk]
    obtain ⟨l1, l2, l3⟩ := look_left s x ho
    obtain ⟨k1, k2, k3⟩ := look_cfg s x
    refine ⟨x, hw, ?_, ?_, by rw [k3]; exact Int.le_refl _, k2.trans hm, k1, rfl, rfl, .inl rfl⟩
    · have : s.left x = 2 := by simp [PRes.left, ho, hs]
      omega
    · rw [k3, l2]
      omega
  | true =>
    have ha : s.act = (⟨3, 1, ((1 : Nat) : Int), s.was, s.next, ByteArray.empty⟩, true) := by simp [PRes.act, hid, hs]
    rw [ha, hw.swap s.was s.next r]
    by_cases he : x = s.was
    · have htk : s.take ⟨x, ByteArray.empty⟩ = { s with over := true, full := false, ticket := cameOf s.was } := by simp [PRes.take, hid, hs, he]
      rw [htk, if_pos he]
      refine ⟨s.next, hw.same _, ?_, ?_, Int.le_refl _, hm, rfl, rfl, rfl, .inr rfl⟩
      · have : s.left x = 1 := by simp [PRes.left, ho, hs, he]
        rw [this]
        simp [PRes.left]
      · simp [PRes.late]
        omega
    · have htk : s.take ⟨x, ByteArray.empty⟩ = PRes.look { s with tries := IntKind.i64.wrap (s.tries + 1) } x := by simp [PRes.take, hid, hs, he]
      rw [htk, if_neg he, hwr]
      obtain ⟨l1, l2, l3⟩ := look_left { s with tries := s.tries + 1 } x ho
      obtain ⟨k1, k2, k3⟩ := look_cfg { s with tries := s.tries + 1 } x
      have he' : ¬ s.was = x := fun e => he e.symm
      refine ⟨x, hw, ?_, ?_, by rw [k3]; show s.tries ≤ s.tries + 1; omega, k2.trans hm, k1, rfl, rfl, .inl rfl⟩
      · have : s.left x = 2 := by simp [PRes.left, ho, hs, he']
        omega
      · have : s.late x = 1 := by simp [PRes.late, ho, hs, he']
        rw [k3, l2, this]
        show s.tries + 1 + ((0 : Nat) : Int) ≤ _
        omega
theorem can_res (S : PHeap) (s : PRes) (hm : s.made = true) : resRout.can S s = !s.over := by
  show ((PRes.act s).2 && S.ready (PRes.act s).1) = _
  cases ho : s.over with
  | true => rw [over_act s ho]; rfl
  | false =>
    have hid : s.idle = false := by simp [PRes.idle, hm, ho]
    cases hs : s.seen with
    | false =>
      have ha : s.act = (⟨1, 1, ((1 : Nat) : Int), 0, 0, ByteArray.empty⟩, true) := by simp [PRes.act, hid, hs]
      rw [ha]
      exact ready_load S 1
    | true =>
      have ha : s.act = (⟨3, 1, ((1 : Nat) : Int), s.was, s.next, ByteArray.empty⟩, true) := by simp [PRes.act, hid, hs]
      rw [ha]
      exact ready_swap S 1 _ _
/-- What is left, alone. -/
theorem res_run : ∀ {xs : List (PAct × PGot)} {S S' : PHeap} {s s' : PRes} {x : Int}, CtlAt S 1 x → s.made = true → (0 ≤ s.tries ∧ s.tries + s.late x ≤ 1000000) → Runs resRout S s xs S' s' →
    s'.made = true ∧ xs.length ≤ s.left x ∧ s'.tries ≤ s.tries + s.late x
  | [], S, S', s, s', x, hw, hm, ht, h => by
    obtain ⟨rfl, rfl⟩ := h
    exact ⟨hm, Nat.zero_le _, by omega⟩
  | y :: l, S, S', s, s', x, hw, hm, ht, h => by
    obtain ⟨hc, r, _, h⟩ := h
    have ho : s.over = false := by
      rw [can_res S s hm] at hc
      simpa using hc
    obtain ⟨x', k⟩ := res_step hw hm ho ⟨ht.1, by omega⟩ r
    have k2 := k.late
    have k3 := k.tries
    obtain ⟨j1, j2, j3⟩ := res_run k.ctl k.made ⟨by omega, by omega⟩ h
    have k4 := k.left
    refine ⟨j1, ?_, by omega⟩
    simp only [List.length_cons]
    omega
end Go.Proofs.Ytfelkkbgbgnpaaa
