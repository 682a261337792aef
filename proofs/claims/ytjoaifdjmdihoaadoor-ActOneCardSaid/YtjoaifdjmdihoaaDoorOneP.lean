/-
  An act changes one cell at most, or makes or drops one block, or turns the lock: the plain law (layer 18). No condition.
-/
import Derived.Test.YtjoaifdjmdihoaaDoorRefU
import Derived.Test.YtjoaifdjmdihoaaDoorCopy
namespace Go.Proofs.YtjoaifdjmdihoaaDoor
set_option linter.unusedVariables false
open Go.ChangeShapes Go.WideShapes Go.ChangeAt Go.RowKit
open Go.ChangeMaps (setBlock)

def dcount (f : Nat → Bool) : Nat → Nat
  | 0 => 0
  | k + 1 => dcount f k + (if f k then 1 else 0)
def gap (S T : PHeap) (b : Int) : Nat → Bool := fun k => !(S.word b k == T.word b k)
def dfull (S T : PHeap) (b : Int) : Nat := if S.size b = T.size b then dcount (gap S T b) (S.size b).toNat else 0
def dsum (S T : PHeap) : List Int → Nat
  | [] => 0
  | b :: l => dfull S T b + dsum S T l
theorem dcount_zero {f : Nat → Bool} : ∀ {n : Nat}, (∀ k, k < n → f k = false) → dcount f n = 0
  | 0, _ => rfl
  | n + 1, h => by
    unfold dcount
    rw [dcount_zero (fun k hk => h k (by omega)), h n (by omega)]
    rfl
theorem dcount_one {f : Nat → Bool} {i : Nat} : ∀ {n : Nat}, (∀ k, k < n → f k = true → k = i) → dcount f n ≤ (if i < n then 1 else 0)
  | 0, _ => by simp [dcount]
  | n + 1, h => by
    have ih := dcount_one (f := f) (i := i) (n := n) (fun k hk => h k (by omega))
    unfold dcount
    by_cases hn : f n = true
    · have e := h n (by omega) hn
      subst e
      have : dcount f n = 0 := by simpa using ih
      rw [this, hn]
      simp
    · have e : f n = false := by simpa using hn
      rw [e]
      simp only [Bool.false_eq_true, if_false, Nat.add_zero]
      split at ih <;> split <;> omega
theorem dcount_le {f : Nat → Bool} {k : Nat} : ∀ {n : Nat}, k ≤ n → dcount f k ≤ dcount f n
  | 0, h => by
    have : k = 0 := by omega
    subst this
    exact Nat.le_refl _
  | n + 1, h => by
    by_cases e : k = n + 1
    · subst e; exact Nat.le_refl _
    · have := dcount_le (f := f) (k := k) (n := n) (by omega)
      have h2 : dcount f (n + 1) = dcount f n + (if f n then 1 else 0) := rfl
      omega
theorem dsum_zero {S T : PHeap} : ∀ {l : List Int}, (∀ b ∈ l, dfull S T b = 0) → dsum S T l = 0
  | [], _ => rfl
  | b :: l, h => by
    unfold dsum
    rw [h b (by simp), dsum_zero (fun c hc => h c (by simp [hc]))]
theorem dsum_one {S T : PHeap} {b : Int} (hb : dfull S T b ≤ 1) : ∀ {l : List Int}, l.Nodup → (∀ c ∈ l, c ≠ b → dfull S T c = 0) → dsum S T l ≤ 1
  | [], _, _ => Nat.zero_le _
  | c :: l, hn, h => by
    rw [List.nodup_cons] at hn
    unfold dsum
    by_cases e : c = b
    · subst e
      have : dsum S T l = 0 := dsum_zero fun d hd => h d (by simp [hd]) (fun e' => hn.1 (e' ▸ hd))
      omega
    · have h1 := h c (by simp) e
      have := dsum_one hb hn.2 (fun d hd => h d (by simp [hd]))
      omega
theorem dsum_take {S T : PHeap} : ∀ {l : List Int} {i : Nat} {b : Int}, l[i]? = some b → dsum S T (l.take i) + dfull S T b ≤ dsum S T l ∧ dsum S T (l.take (i + 1)) = dsum S T (l.take i) + dfull S T b
  | [], i, b, h => by simp at h
  | c :: l, 0, b, h => by
    have e : c = b := by simpa using h
    subst e
    simp only [List.take_zero, List.take_succ_cons, dsum]
    omega
  | c :: l, i + 1, b, h => by
    have ih := dsum_take (S := S) (T := T) (l := l) (i := i) (b := b) (by simpa using h)
    simp only [List.take_succ_cons, dsum]
    omega
theorem same_gap {S T : PHeap} {b : Int} (h : (S.find b).map (·.cells) = (T.find b).map (·.cells)) : dfull S T b = 0 := by
  have hw : ∀ k : Nat, S.word b k = T.word b k := fun k => by
    unfold PHeap.word PBlk.nth
    cases h1 : S.find b <;> cases h2 : T.find b <;> rw [h1, h2] at h <;> simp at h ⊢
    rw [h]
  unfold dfull
  split
  · exact dcount_zero fun k _ => by unfold gap; rw [hw k]; simp
  · rfl
theorem set_find18 (S : PHeap) (b c : Int) (i : Nat) (v : Int) : (S.set b i v).find c = (S.find c).map fun x => if x.key = b then { x with cells := x.cells.set i v } else x := by
  unfold PHeap.find PHeap.set
  simp only
  rw [List.find?_map]
  congr 1
  congr 1
  funext x
  simp only [Function.comp]
  split <;> rfl
theorem act_kinds (S : PHeap) (x : PAct) (r : Nat) : ((S.act x r).2.blocks = S.blocks ∧ (S.act x r).2.locked = S.locked) ∨ (x.looks = false ∧
    ((∃ b i v, (S.act x r).2.blocks = (S.set b i v).blocks ∧ (S.act x r).2.locked = S.locked) ∨ (∃ z, (S.act x r).2.blocks = S.blocks ++ [z] ∧ (S.act x r).2.locked = S.locked) ∨
      (∃ b, (S.act x r).2.blocks = S.blocks.filter (fun y => y.key != b) ∧ (S.act x r).2.locked = S.locked) ∨ (S.act x r).2.blocks = S.blocks)) := by
  have hl : ∀ k : Int, x.kind = k → k ≠ 1 → k ≠ 6 → k ≠ 10 → x.looks = false := fun k e h1 h2 h3 => by
    unfold PAct.looks
    rw [e]
    have e1 : (k == 1) = false := by simpa using h1
    have e2 : (k == 6) = false := by simpa using h2
    have e3 : (k == 10) = false := by simpa using h3
    rw [e1, e2, e3]
    simp
  have key : ∀ T : PHeap, (S.act x r).2 = T → (T.blocks = S.blocks ∧ T.locked = S.locked) ∨ (x.looks = false ∧
    ((∃ b i v, T.blocks = (S.set b i v).blocks ∧ T.locked = S.locked) ∨ (∃ z, T.blocks = S.blocks ++ [z] ∧ T.locked = S.locked) ∨
      (∃ b, T.blocks = S.blocks.filter (fun y => y.key != b) ∧ T.locked = S.locked) ∨ T.blocks = S.blocks)) := by
    intro T hT
    unfold PHeap.act at hT
    by_cases c0 : x.right = false
    · rw [if_pos c0] at hT; subst hT; exact .inl ⟨rfl, rfl⟩
    rw [if_neg c0] at hT
    by_cases c1 : x.kind = 1 ∨ x.kind = 10
    · rw [if_pos c1] at hT
      simp only [PHeap.load] at hT
      split at hT <;> subst hT <;> exact .inl ⟨rfl, rfl⟩
    rw [if_neg c1] at hT
    by_cases c2 : x.kind = 2
    · rw [if_pos c2] at hT
      have hk := hl 2 c2 (by decide) (by decide) (by decide)
      simp only [PHeap.store] at hT
      split at hT <;> subst hT
      · exact .inr ⟨hk, .inl ⟨_, _, _, rfl, rfl⟩⟩
      · exact .inl ⟨rfl, rfl⟩
    rw [if_neg c2] at hT
    by_cases c3 : x.kind = 3
    · rw [if_pos c3] at hT
      have hk := hl 3 c3 (by decide) (by decide) (by decide)
      simp only [PHeap.swap] at hT
      split at hT
      · simp only at hT
        split at hT <;> subst hT
        · exact .inr ⟨hk, .inl ⟨_, _, _, rfl, rfl⟩⟩
        · exact .inl ⟨rfl, rfl⟩
      · subst hT; exact .inl ⟨rfl, rfl⟩
    rw [if_neg c3] at hT
    by_cases c4 : x.kind = 4
    · rw [if_pos c4] at hT
      have hk := hl 4 c4 (by decide) (by decide) (by decide)
      simp only [PHeap.bump] at hT
      split at hT <;> subst hT
      · exact .inr ⟨hk, .inl ⟨_, _, _, rfl, rfl⟩⟩
      · exact .inl ⟨rfl, rfl⟩
    rw [if_neg c4] at hT
    by_cases c5 : x.kind = 5
    · rw [if_pos c5] at hT
      have hk := hl 5 c5 (by decide) (by decide) (by decide)
      simp only [PHeap.make] at hT
      split at hT <;> subst hT
      · exact .inr ⟨hk, .inr (.inl ⟨_, rfl, rfl⟩)⟩
      · exact .inl ⟨rfl, rfl⟩
    rw [if_neg c5] at hT
    by_cases c6 : x.kind = 6
    · rw [if_pos c6] at hT
      simp only [PHeap.words] at hT
      split at hT <;> subst hT <;> exact .inl ⟨rfl, rfl⟩
    rw [if_neg c6] at hT
    by_cases c7 : x.kind = 7
    · rw [if_pos c7] at hT
      have hk := hl 7 c7 (by decide) (by decide) (by decide)
      simp only [PHeap.drop] at hT
      split at hT <;> subst hT
      · exact .inr ⟨hk, .inr (.inr (.inl ⟨_, rfl, rfl⟩))⟩
      · exact .inl ⟨rfl, rfl⟩
    rw [if_neg c7] at hT
    by_cases c8 : x.kind = 8
    · rw [if_pos c8] at hT
      have hk := hl 8 c8 (by decide) (by decide) (by decide)
      subst hT
      exact .inr ⟨hk, .inr (.inr (.inr rfl))⟩
    rw [if_neg c8] at hT
    by_cases c9 : x.kind = 9
    · rw [if_pos c9] at hT
      have hk := hl 9 c9 (by decide) (by decide) (by decide)
      simp only [PHeap.unlock] at hT
      split at hT <;> subst hT <;> exact .inr ⟨hk, .inr (.inr (.inr rfl))⟩
    rw [if_neg c9] at hT
    subst hT
    exact .inl ⟨rfl, rfl⟩
  exact key _ rfl
/-- How many differences there are. -/
def total (S T : PHeap) (ks : List Int) : Nat := (if S.blocks.length = T.blocks.length then 0 else 1) + (if S.locked = T.locked then 0 else 1) + dsum S T ks
theorem act_total (S : PHeap) (x : PAct) (r : Nat) (ks : List Int) (hn : ks.Nodup) (hk : ∀ b ∈ ks, ∃ y, S.find b = some y) : total S (S.act x r).2 ks ≤ 1 ∧ (x.looks = true → total S (S.act x r).2 ks = 0) := by
  have hsame : ∀ T : PHeap, T.blocks = S.blocks → dsum S T ks = 0 := fun T h => dsum_zero fun b _ => same_gap (by unfold PHeap.find; rw [h])
  unfold total
  rcases act_kinds S x r with ⟨h1, h2⟩ | ⟨hlk, h⟩
  · rw [hsame _ h1, h1, h2]
    simp
  · refine ⟨?_, fun h => by rw [hlk] at h; cases h⟩
    generalize (S.act x r).2 = T at *
    have hbit : (if S.blocks.length = T.blocks.length then 0 else 1) ≤ 1 := by split <;> omega
    have hbit2 : (if S.locked = T.locked then 0 else 1) ≤ 1 := by split <;> omega
    rcases h with ⟨b, i, v, h1, h2⟩ | ⟨z, h1, h2⟩ | ⟨b, h1, h2⟩ | h1
    · have hlen : S.blocks.length = T.blocks.length := by rw [h1]; simp [PHeap.set]
      rw [if_pos hlen, if_pos h2.symm]
      have hf : ∀ c, T.find c = (S.set b i v).find c := fun c => by unfold PHeap.find; rw [h1]
      have hd : dsum S T ks ≤ 1 := by
        refine dsum_one (b := b) ?_ hn fun c hc hne => same_gap ?_
        · unfold dfull
          split
          · refine Nat.le_trans (dcount_one (i := i) fun k hk hg => ?_) (by split <;> omega)
            unfold gap at hg
            have hg' : ¬ S.word b k = T.word b k := by simpa using hg
            refine Classical.byContradiction fun hki => hg' ?_
            unfold PHeap.word
            rw [hf, set_find18]
            cases hs : S.find b with
            | none => rfl
            | some y =>
              simp only [Option.map_some]
              rw [if_pos (find_mem hs).2]
              unfold PBlk.nth
              simp only [Int.toNat_natCast, List.getD_eq_getElem?_getD]
              rw [List.getElem?_set_ne (fun e => hki e.symm)]
          · omega
        · rw [hf, set_find18]
          cases hs : S.find c with
          | none => rfl
          | some y =>
            simp only [Option.map_some]
            rw [if_neg (by rw [(find_mem hs).2]; exact hne)]
      omega
    · have hd : dsum S T ks = 0 := dsum_zero fun c hc => same_gap (by
        obtain ⟨y, hy⟩ := hk c hc
        have : T.find c = some y := by
          unfold PHeap.find at hy ⊢
          rw [h1, List.find?_append, hy]
          rfl
        rw [hy, this])
      rw [hd, if_pos h2.symm]
      omega
    · have hd : dsum S T ks = 0 := dsum_zero fun c hc => by
        by_cases e : c = b
        · subst e
          have ht : T.find c = none := by
            unfold PHeap.find
            rw [h1, List.find?_eq_none]
            intro y hy
            have := List.mem_filter.1 hy
            simpa using this.2
          unfold dfull
          split
          · rename_i he
            have h0 : T.size c = 0 := by unfold PHeap.size; rw [ht]; rfl
            rw [he, h0]
            rfl
          · rfl
        · refine same_gap ?_
          have : T.find c = S.find c := by
            unfold PHeap.find
            rw [h1, List.find?_filter]
            congr 1
            funext y
            by_cases hy : y.key = c
            · rw [hy]; simp [e]
            · simp [hy]
          rw [this]
      rw [hd, if_pos h2.symm]
      omega
    · rw [hsame _ h1, h1]
      simp only [if_true]
      omega
/-- A copy is told from its own heap by nothing. -/
theorem total_alike {S U T : PHeap} (h : ∀ b, (U.find b).map (·.cells) = (S.find b).map (·.cells)) (hlen : U.blocks.length = S.blocks.length) (hlk : U.locked = S.locked) (ks : List Int) : total U T ks = total S T ks := by
  have hs : ∀ b, U.size b = S.size b := fun b => by
    have := h b
    unfold PHeap.size
    cases h1 : U.find b <;> cases h2 : S.find b <;> rw [h1, h2] at this <;> simp at this ⊢
    rw [this]
  have hw : ∀ (b : Int) (k : Nat), U.word b k = S.word b k := fun b k => by
    have := h b
    unfold PHeap.word PBlk.nth
    cases h1 : U.find b <;> cases h2 : S.find b <;> rw [h1, h2] at this <;> simp at this ⊢
    rw [this]
  have hd : ∀ l, dsum U T l = dsum S T l := fun l => by
    induction l with
    | nil => rfl
    | cons b l ih =>
      unfold dsum
      rw [ih]
      have : dfull U T b = dfull S T b := by
        unfold dfull
        rw [hs b]
        have hg : gap U T b = gap S T b := by funext k; unfold gap; rw [hw b k]
        rw [hg]
      rw [this]
  unfold total
  rw [hd, hlen, hlk]
end Go.Proofs.YtjoaifdjmdihoaaDoor
