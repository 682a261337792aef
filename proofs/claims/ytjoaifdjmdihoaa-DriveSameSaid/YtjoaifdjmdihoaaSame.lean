/-
  A heap's answers hang on nothing of where its blocks lie (the plain law of layer 19). No condition.
-/
import Derived.Test.YtjoaifdjmdihoaaAlone
namespace Go.Proofs.Ytjoaifdjmdihoaa
set_option linter.unusedVariables false
def PBlk.bare (b : PBlk) : PBlk := { b with row := 0 }
def PHeap.bare (S : PHeap) : PHeap := { S with blocks := S.blocks.map PBlk.bare }
theorem bare_find (S : PHeap) (k : Int) : S.bare.find k = (S.find k).map PBlk.bare := by
  unfold PHeap.find PHeap.bare
  rw [List.find?_map]
  rfl
theorem bare_code (S : PHeap) (b i : Int) : S.bare.code b i = S.code b i := by
  unfold PHeap.code
  rw [bare_find]
  cases S.find b <;> rfl
theorem bare_word (S : PHeap) (b i : Int) : S.bare.word b i = S.word b i := by
  unfold PHeap.word
  rw [bare_find]
  cases S.find b <;> rfl
theorem bare_size (S : PHeap) (b : Int) : S.bare.size b = S.size b := by
  unfold PHeap.size
  rw [bare_find]
  cases S.find b <;> rfl
theorem bare_set (S : PHeap) (b : Int) (i : Nat) (v : Int) : S.bare.set b i v = (S.set b i v).bare := by
  unfold PHeap.set PHeap.bare
  simp only [List.map_map]
  congr 1
  apply List.map_congr_left
  intro x _
  show (if x.key = b then _ else _) = PBlk.bare (if x.key = b then _ else _)
  split <;> rfl
theorem bare_load (S : PHeap) (b i : Int) : S.bare.load b i = ((S.load b i).1, (S.load b i).2.bare) := by
  unfold PHeap.load
  rw [bare_code, bare_word]
  split <;> rfl
theorem bare_store (S : PHeap) (b i v : Int) : S.bare.store b i v = (S.store b i v).bare := by
  unfold PHeap.store
  rw [bare_code, bare_set]
  split <;> rfl
theorem bare_bump (S : PHeap) (b i v : Int) : S.bare.bump b i v = ((S.bump b i v).1, (S.bump b i v).2.bare) := by
  unfold PHeap.bump
  rw [bare_code, bare_word, bare_set]
  split <;> rfl
theorem bare_swap (S : PHeap) (b i o v : Int) : S.bare.swap b i o v = ((S.swap b i o v).1, (S.swap b i o v).2.bare) := by
  unfold PHeap.swap
  rw [bare_code, bare_word, bare_set]
  split
  · split <;> rfl
  · rfl
theorem bare_make (S : PHeap) (n : Int) (t : ByteArray) (r : Nat) : S.bare.make n t 0 = ((S.make n t r).1, (S.make n t r).2.bare) := by
  unfold PHeap.make
  split
  · unfold PHeap.bare
    simp only [List.map_append, List.map_cons, List.map_nil]
    rfl
  · rfl
theorem bare_words (S : PHeap) (b : Int) : S.bare.words b = ((S.words b).1, (S.words b).2.bare) := by
  unfold PHeap.words
  rw [bare_find]
  cases S.find b <;> rfl
theorem bare_drop (S : PHeap) (b : Int) : S.bare.drop b = (S.drop b).bare := by
  unfold PHeap.drop
  rw [bare_find]
  cases S.find b with
  | none => rfl
  | some x =>
    show ({ S.bare with blocks := (S.blocks.map PBlk.bare).filter fun y => y.key != b } : PHeap) = { S with blocks := (S.blocks.filter fun y => y.key != b).map PBlk.bare }
    rw [List.filter_map]
    rfl
theorem bare_unlock (S : PHeap) : S.bare.unlock = S.unlock.bare := by
  show (if S.locked = true then ({ S.bare with locked := false } : PHeap) else S.bare.fault) = _
  unfold PHeap.unlock
  cases S.locked <;> rfl
theorem bare_act (S : PHeap) (x : PAct) (r : Nat) : S.bare.act x 0 = ((S.act x r).1, (S.act x r).2.bare) := by
  unfold PHeap.act
  rw [bare_load, bare_store, bare_bump, bare_swap, bare_make S x.cell x.text r, bare_words, bare_drop, bare_unlock, show S.bare.locked = S.locked from rfl]
  repeat' split
  all_goals rfl
theorem bare_ready (S : PHeap) (x : PAct) : S.bare.ready x = S.ready x := by
  unfold PHeap.ready
  rw [bare_word, bare_size]
  rfl
section
variable {σ : Type} (Rt : Rout σ)
theorem bare_can (S : PHeap) (s : σ) : Rt.can S.bare s = Rt.can S s := by
  unfold Rout.can
  rw [bare_ready]
/-- Of two runs from heaps that are alike, the one that is not longer is the other one's beginning. -/
theorem runs_pre : ∀ (xs ys : List (PAct × PGot)) {S T S1 T1 : PHeap} {s s1 t1 : σ}, S.bare = T.bare → Runs Rt S s xs S1 s1 → Runs Rt T s ys T1 t1 → xs.length ≤ ys.length →
    xs = ys.take xs.length ∧ (xs.length = ys.length → S1.bare = T1.bare ∧ s1 = t1) ∧ (xs.length < ys.length → Rt.can S1 s1 = true)
  | [], [], S, T, S1, T1, s, s1, t1, hb, h1, h2, _ => by
    obtain ⟨rfl, rfl⟩ := h1
    obtain ⟨rfl, rfl⟩ := h2
    exact ⟨rfl, fun _ => ⟨hb, rfl⟩, fun h => absurd h (by simp)⟩
  | [], y :: ys, S, T, S1, T1, s, s1, t1, hb, h1, h2, _ => by
    obtain ⟨rfl, rfl⟩ := h1
    refine ⟨rfl, fun h => by simp at h, fun _ => ?_⟩
    rw [← bare_can, hb, bare_can]
    exact h2.1
  | x :: xs, [], _, _, _, _, _, _, _, _, _, _, hl => by simp at hl
  | x :: xs, y :: ys, S, T, S1, T1, s, s1, t1, hb, h1, h2, hl => by
    obtain ⟨_, r1, rfl, h1⟩ := h1
    obtain ⟨_, r2, rfl, h2⟩ := h2
    have e1 := bare_act S (Rt.act s).1 r1
    have e2 := bare_act T (Rt.act s).1 r2
    rw [hb, e2] at e1
    injection e1 with e3 e4
    rw [e3] at h2 ⊢
    obtain ⟨k1, k2, k3⟩ := runs_pre xs ys e4.symm h1 h2 (by simpa using hl)
    refine ⟨by simpa using k1, fun h => k2 (by simpa using h), fun h => k3 (by simpa using h)⟩
/-- Two runs of as many steps as were asked, or up to where it can't go on, are alike. -/
theorem runs_same {n : Nat} {xs ys : List (PAct × PGot)} {S T S1 T1 : PHeap} {s s1 t1 : σ} (hb : S.bare = T.bare) (h1 : Runs Rt S s xs S1 s1) (h2 : Runs Rt T s ys T1 t1) (l1 : xs.length ≤ n) (l2 : ys.length ≤ n) (e1 : n ≤ xs.length ∨ Rt.can S1 s1 = false) (e2 : n ≤ ys.length ∨ Rt.can T1 t1 = false) :
    xs = ys ∧ S1.bare = T1.bare := by
  rcases Nat.lt_trichotomy xs.length ys.length with h | h | h
  · have := (runs_pre Rt xs ys hb h1 h2 (by omega)).2.2 h
    rcases e1 with e1 | e1
    · omega
    · rw [e1] at this; cases this
  · obtain ⟨k1, k2, _⟩ := runs_pre Rt xs ys hb h1 h2 (by omega)
    refine ⟨?_, (k2 h).1⟩
    rw [k1, h, List.take_length]
  · have := (runs_pre Rt ys xs hb.symm h2 h1 (by omega)).2.2 h
    rcases e2 with e2 | e2
    · omega
    · rw [e2] at this; cases this
/-- A step of the one run has its like in the other one. -/
theorem runs_step {n : Nat} {xs ys : List (PAct × PGot)} {x : PAct × PGot} {S T S1 T1 : PHeap} {s s1 t1 : σ} (hb : S.bare = T.bare) (h1 : Runs Rt S s xs S1 s1) (h2 : Runs Rt T s (ys ++ [x]) T1 t1) (l2 : ys.length + 1 ≤ n) (e1 : n ≤ xs.length ∨ Rt.can S1 s1 = false) :
    xs[ys.length]? = some x := by
  rcases Nat.lt_or_ge xs.length (ys.length + 1) with h | h
  · have := (runs_pre Rt xs (ys ++ [x]) hb h1 h2 (by simp; omega)).2.2 (by simp; omega)
    rcases e1 with e1 | e1
    · omega
    · rw [e1] at this; cases this
  · have k := (runs_pre Rt (ys ++ [x]) xs hb.symm h2 h1 (by simp; omega)).1
    have k2 : (ys ++ [x])[ys.length]? = some x := by simp
    rw [k, List.getElem?_take] at k2
    split at k2
    · exact k2
    · cases k2
end
end Go.Proofs.Ytjoaifdjmdihoaa
