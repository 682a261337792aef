/-
  The routine that makes a version, and the document's one: side by side (the plain law). No condition.
-/
import Derived.Test.YtdmdkelmmlinlaaShelf2
import Derived.Test.YtdmdkelmmlinlaaShelfN
import Derived.Test.YtdmdkelmmlinlaaFeed
namespace Go.Proofs.Ytdmdkelmmlinlaa
set_option linter.unusedVariables false
open Go.ChangeShapes Go.WideShapes Go.ChangeAt Go.RowKit
open Go.ChangeMaps (setBlock)

def storeL (b : Int) (T : PTape) (l : List PAct) : PTape := l.foldl (fun T x => (T.doAct { x with block := b }).2) T
theorem PVer.take_done (s : PVer) (h : s.at_ = s.todo.length) (g : PGot) : s.take g = s := by simp [PVer.take, h]
theorem PVer.act_done (s : PVer) (h : s.at_ = s.todo.length) : s.act = (noAct, false) := by simp [PVer.act, h]
theorem PVer.result_on (s : PVer) (h : s.act.2 = true) : s.result = (0, false) := by
  unfold PVer.act at h
  cases hx : s.todo[s.at_]? with
  | none => rw [hx] at h; cases h
  | some x =>
    have := (List.getElem?_eq_some_iff.mp hx).1
    simp [PVer.result, this]
theorem storeL_ended {s0 : PVer} {Q : List PGot} {b : Int} : ∀ (l : List PAct) {T : PTape}, Ended PVer.act PVer.take s0 Q T → storeL b T l = T
  | [], T, h => rfl
  | x :: l, T, h => by
    show storeL b (T.doAct _).2 l = T
    rw [h.go]
    exact storeL_ended l h
theorem storeL_fed {s0 : PVer} {Q : List PGot} {todo : List PAct} {b : Int} (hb : b ≠ 0) : ∀ (l : List PAct) (k : Nat) {T : PTape}, 0 < k → todo.drop k = l → k ≤ todo.length → Fed PVer.take s0 Q T ⟨todo, k, b⟩ →
    Ended PVer.act PVer.take s0 Q (storeL b T l) ∨ Fed PVer.take s0 Q (storeL b T l) ⟨todo, todo.length, b⟩
  | [], k, T, h0, h, hk, hF => by
    have e : k = todo.length := by
      have := congrArg List.length h
      simp at this
      omega
    subst e
    exact .inr hF
  | x :: l, k, T, h0, h, hk, hF => by
    have hx : todo[k]? = some x := by
      have := congrArg (·[0]?) h
      simpa using this
    have hkl : k < todo.length := (List.getElem?_eq_some_iff.mp hx).1
    have ha : PVer.act ⟨todo, k, b⟩ = ({ x with block := b }, true) := by simp [PVer.act, hx, h0]
    have hd : todo.drop (k + 1) = l := by
      have := congrArg (List.drop 1) h
      simpa using this
    rcases hF.go ha with ⟨g, hg, e, hF'⟩ | ⟨e, hE⟩
    · have ht : PVer.take ⟨todo, k, b⟩ g = ⟨todo, k + 1, b⟩ := by
        have h1 : k ≠ todo.length := by omega
        have h2 : k ≠ 0 := by omega
        simp [PVer.take, h1, h2, hb]
      rw [ht] at hF'
      show Ended _ _ s0 Q (storeL b (T.doAct _).2 l) ∨ Fed _ s0 Q (storeL b (T.doAct _).2 l) _
      rw [e]
      exact storeL_fed hb l (k + 1) (by omega) hd (by omega) hF'
    · left
      show Ended _ _ s0 Q (storeL b (T.doAct _).2 l)
      rw [e, storeL_ended l hE]
      exact hE
theorem version_stores (T : PTape) (epoch next : Int) (c : PChange) :
    T.version epoch next c = (let m := T.doAct ⟨5, 0, 3, 0, 0, if c.has then c.value else ByteArray.empty⟩
      if m.1.word = 0 then (0, m.2) else (m.1.word, storeL m.1.word m.2 ((verTodo epoch next c).drop 1))) := by
  obtain ⟨key, has, value⟩ := c
  unfold PTape.version
  by_cases hn : next = 0 <;> cases has <;> simp [verTodo, storeL, hn]
theorem version_fed (epoch next : Int) (c : PChange) (Q : List PGot) (T : PTape) (h1 : T.over = false) (h2 : T.at_ = 0) (h3 : T.act = noAct) (h4 : T.got = Q) :
    Ended PVer.act PVer.take (newVer epoch next c) Q (T.version epoch next c).2 ∨
    ((T.version epoch next c).2.over = false ∧ (T.version epoch next c).2.act = noAct ∧ (feed PVer.take (newVer epoch next c) Q).at_ = (feed PVer.take (newVer epoch next c) Q).todo.length ∧ (feed PVer.take (newVer epoch next c) Q).block = (T.version epoch next c).1) := by
  have d0 := Fed.start (take := PVer.take) (newVer epoch next c) Q T h1 h2 h3 h4
  have ha : PVer.act (newVer epoch next c) = (⟨5, 0, 3, 0, 0, if c.has then c.value else ByteArray.empty⟩, true) := rfl
  have hl : 2 ≤ (verTodo epoch next c).length := by simp [verTodo]
  rw [version_stores]
  rcases d0.go ha with ⟨g, hg, e, d1⟩ | ⟨e, hE⟩
  · rw [e]
    by_cases g0 : g.word = 0
    · right
      simp only [g0, if_true]
      have ht : PVer.take (newVer epoch next c) g = ⟨verTodo epoch next c, (verTodo epoch next c).length, 0⟩ := by
        simp [PVer.take, newVer, g0]
      rw [ht] at d1
      rw [d1.done (fun g => PVer.take_done _ rfl g)]
      exact ⟨h1, h3, rfl, rfl⟩
    · simp only [g0, if_false]
      have ht : PVer.take (newVer epoch next c) g = ⟨verTodo epoch next c, 1, g.word⟩ := by
        simp [PVer.take, newVer, g0]
        intro h
        rw [← h] at hl
        simp at hl
      rw [ht] at d1
      rcases storeL_fed g0 _ 1 (by omega) rfl (by omega) d1 with hE | hF
      · exact .inl hE
      · right
        rw [hF.done (fun g => PVer.take_done _ rfl g)]
        exact ⟨hF.over, hF.act, rfl, rfl⟩
  · left
    rw [e]
    simpa [noGot] using hE
end Go.Proofs.Ytdmdkelmmlinlaa
