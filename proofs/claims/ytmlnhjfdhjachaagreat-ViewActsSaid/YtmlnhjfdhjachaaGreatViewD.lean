/-
  Facts on a view that stands in a call's own world (layer 27). No condition.
-/
import Derived.Test.YtmlnhjfdhjachaaGreatViewF
import Derived.Test.YtmlnhjfdhjachaaGreatViewG
namespace Go.Proofs.YtmlnhjfdhjachaaGreat
set_option linter.unusedVariables false
open Go.ChangeShapes Go.WideShapes Go.ChangeAt Go.RowKit
open Go.ChangeMaps (setBlock)

theorem viewAt_is {B b : Nat} {W : World} {s : PView} (h : RAt viewRout B W b s) (h0 : s.part ≠ 0) : decide (s.part = 6) = !s.act.2 ∧ (s.act.2 = false → s.act.1 = noAct) := by
  obtain ⟨Q, ⟨_, _, pv, cv, sv, ov, _, hc⟩, _⟩ := h
  rcases hc with e | ⟨hI, hS⟩
  · exact absurd e h0
  · have hp := hI.part
    have hcase : s.part = 1 ∨ s.part = 2 ∨ s.part = 3 ∨ s.part = 4 ∨ s.part = 5 ∨ s.part = 6 := by omega
    unfold PView.act
    rcases hcase with e | e | e | e | e | e
    · obtain ⟨rb, _, _, _, hs, hn⟩ := hS.pin e
      have h5 := hs.inv.is
      have ha : s.pin.act.2 = true := by
        have := h5.1
        unfold PPin.result at this
        rw [if_neg hn] at this
        cases hx : s.pin.act.2 with
        | true => rfl
        | false => rw [hx] at this; cases this
      simp [e, ha]
    · simp [e]
    · simp [e]
    · obtain ⟨rb, _, _, _, hs, hk1, hk6⟩ := hS.chain e
      have hp6 := hs.part
      have ha : s.chain.act.2 = true := by
        have hcc : s.chain.part = 1 ∨ s.chain.part = 2 ∨ s.chain.part = 3 ∨ s.chain.part = 4 ∨ s.chain.part = 5 := by omega
        unfold PChain.act
        rcases hcc with e | e | e | e | e <;> simp [e]
      simp [e, ha]
    · simp [e]
    · simp [e]
theorem view_next_part (s : PView) : s.next.part ≠ 0 := by
  unfold PView.next
  simp only
  split <;> simp
theorem view_part (s : PView) (h : s.part ≠ 0) (g : PGot) : (s.take g).part ≠ 0 := by
  unfold PView.take
  split
  · unfold PView.settle1; simp only; repeat' split
    all_goals first | exact h | simp
  · split
    · split
      · exact view_next_part _
      · simp
    · split
      · simp
      · split
        · unfold PView.settle4; simp only; split
          · exact view_next_part _
          · exact h
        · split
          · simp
          · exact h
theorem feed_vpart (s0 : PView) (h : s0.part ≠ 0) : ∀ Q : List PGot, (feed PView.take s0 Q).part ≠ 0
  | [] => h
  | g :: Q => feed_vpart (s0.take g) (view_part s0 h g) Q
theorem viewAt_told {B b : Nat} {W : World} {s : PView} (h : RAt viewRout B W b s) : Calls Tryz.prog 11 #[.pointer (some ⟨b, 0, none⟩)] W fun e w' => ∃ rc rm vA vc, ∃ l : List (ByteArray × ByteArray), e = .returned (.tuple #[.agg #[.int .i64 rc, .int .i64 0, .int .i64 0, .bool false, .string ⟨#[]⟩, .slice vA l.length vc, .int .i64 0, .slice none 0 0, .int .i64 rm, .int .u64 0], .bool (decide (s.part = 6))]) ∧ Reads w' w'.heap.size 2 vA l.length (pairL l) ∧ l.length ≤ 900 ∧ Below W.heap.size W w' ∧ (s.part = 6 → rc = s.code ∧ rm = s.mark ∧ l = s.out) := by
  obtain ⟨Q, h1, _⟩ := h
  refine (viewTold_any h1.2.2).mono fun e w' ht => ?_
  unfold ViewTold at ht
  by_cases h6 : s.part = 6
  · rw [if_pos h6] at ht
    obtain ⟨vA, vc, rfl, ho, hb⟩ := ht
    have hl : s.out.length ≤ 900 := by
      obtain ⟨_, _, pv, cv, sv, ov, _, hc⟩ := h1
      rcases hc with h | ⟨hI, _⟩
      · rw [h6] at h; cases h
      · exact out_len hI
    exact ⟨_, _, vA, vc, s.out, by rw [decide_eq_true h6], Reads.of_own ho, hl, hb, fun _ => ⟨rfl, rfl, rfl⟩⟩
  · rw [if_neg h6] at ht
    obtain ⟨rfl, hb⟩ := ht
    exact ⟨0, 0, none, 0, [], by rw [decide_eq_false h6]; rfl, Reads.none_, Nat.zero_le _, hb, fun h => absurd h h6⟩
end Go.Proofs.YtmlnhjfdhjachaaGreat
