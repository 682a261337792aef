/-
  Making a version on a heap (layer 22): the plain law. No condition.
-/
import Derived.Test.YtmlnhjfdhjachaaGreatShelfR
import Derived.Test.YtmlnhjfdhjachaaGreatKeepP
namespace Go.Proofs.YtmlnhjfdhjachaaGreat
set_option linter.unusedVariables false
open Go.ChangeShapes Go.WideShapes Go.ChangeAt Go.RowKit
open Go.ChangeMaps (setBlock)

/-- A heap that has one block more than another one, and is else the same. -/
structure VS (S0 S : PHeap) (nb : Int) (r : Nat) (cells : List Int) (t : ByteArray) : Prop where
  new : S.find nb = some ⟨nb, r, cells, t⟩
  old : ∀ k, k ≠ nb → S.find k = S0.find k
  last : S.last = S0.last + 1
  faults : S.faults = S0.faults
  keys : ∀ x ∈ S.blocks, x.key ≤ S.last
  len : S.blocks.length = S0.blocks.length + 1
theorem VS.store {S0 S : PHeap} {nb : Int} {r : Nat} {cells : List Int} {t : ByteArray} (h : VS S0 S nb r cells t) (i : Nat) (v : Int) : VS S0 (S.set nb i v) nb r (cells.set i v) t := by
  refine ⟨?_, fun k hk => ?_, h.last, h.faults, fun x hx => ?_, by rw [← h.len]; simp [PHeap.set]⟩
  · rw [set_find, h.new]
    simp
  · rw [find_other _ _ _ _ _ (fun e => hk e.symm)]
    exact h.old k hk
  · obtain ⟨y, hy, rfl⟩ := List.mem_map.1 hx
    have := h.keys y hy
    show (if y.key = nb then ({ y with cells := y.cells.set i v } : PBlk) else y).key ≤ S.last
    split <;> exact this
theorem VS.make {S : PHeap} (hk : ∀ x ∈ S.blocks, x.key ≤ S.last) (r n : Nat) (t : ByteArray) : VS S { S with blocks := S.blocks ++ [⟨S.last + 1, r, List.replicate n 0, t⟩], last := S.last + 1 } (S.last + 1) r (List.replicate n 0) t := by
  have hnone : S.blocks.find? (fun b => b.key == S.last + 1) = none := by
    rw [List.find?_eq_none]
    intro x hx
    have := hk x hx
    simp
    omega
  refine ⟨?_, fun k hne => ?_, rfl, rfl, fun x hx => ?_, by simp⟩
  · unfold PHeap.find
    rw [List.find?_append, hnone]
    simp
  · unfold PHeap.find
    rw [List.find?_append]
    have : ([⟨S.last + 1, r, List.replicate n 0, t⟩] : List PBlk).find? (fun b => b.key == k) = none := by
      simp
      omega
    rw [this]
    simp
  · show x.key ≤ S.last + 1
    rcases List.mem_append.1 hx with hx | hx
    · have := hk x hx
      omega
    · simp at hx
      rw [hx]
      exact Int.le_refl _
def stA (i : Nat) (v : Int) : PAct := ⟨2, 0, i, 0, v, ByteArray.empty⟩
theorem right_storeB (b : Int) (i : Nat) (v : Int) : PAct.right ⟨2, b, i, 0, v, ByteArray.empty⟩ = true := by simp [PAct.right, PAct.fit]
theorem ready_storeB (S : PHeap) (b : Int) (i : Nat) (v : Int) : S.ready ⟨2, b, i, 0, v, ByteArray.empty⟩ = true := by simp [PHeap.ready, right_storeB]
theorem act_storeB {S : PHeap} {b : Int} {x : PBlk} (h : S.find b = some x) (i : Nat) (hi : i < x.cells.length) (v : Int) (r : Nat) : S.act ⟨2, b, i, 0, v, ByteArray.empty⟩ r = (⟨0, ByteArray.empty⟩, S.set b i v) := by
  simp [PHeap.act, right_storeB, PHeap.store, code_hit h ⟨(by omega : (0 : Int) ≤ (i : Int)), (by omega : (i : Int) < x.cells.length)⟩]
theorem ver_end {S S' : PHeap} {s s' : PVer} {xs : List (PAct × PGot)} (hn : s.todo[s.at_]? = none) (h : Runs verRout S s xs S' s') : xs = [] ∧ S' = S ∧ s' = s := by
  match xs, h with
  | [], h => exact ⟨rfl, h.1.symm, h.2.symm⟩
  | y :: l, h =>
    obtain ⟨h1, _⟩ := h
    have : verRout.can S s = false := by
      show ((PVer.act s).2 && _) = false
      unfold PVer.act
      rw [hn]
      rfl
    rw [this] at h1
    cases h1
theorem ver_stores {S0 : PHeap} {nb : Int} {r : Nat} {t : ByteArray} (hnb : nb ≠ 0) : ∀ (sts : List (Nat × Int)) (s : PVer) (S : PHeap) (cells : List Int) {S' : PHeap} {s' : PVer} {xs : List (PAct × PGot)} {m : Int}, VS S0 S nb r cells t → cells.length = 3 → (∀ x ∈ sts, x.1 < 3) →
    s.todo.drop s.at_ = sts.map (fun x => stA x.1 x.2) → 0 < s.at_ → s.at_ ≤ s.todo.length → s.block = nb → Runs verRout S s xs S' s' → (m ≤ (xs.length : Nat) ∨ verRout.can S' s' = false) → (sts.length : Int) + 1 ≤ m →
    VS S0 S' nb r (sts.foldl (fun c x => c.set x.1 x.2) cells) t ∧ s'.result = (nb, true)
  | [], s, S, cells, S', s', xs, m, hv, hc, hx, hd, h0, hl, hb, h, hst, hm => by
    have hge : s.todo.length ≤ s.at_ := by
      have := congrArg List.length hd
      simp at this
      omega
    obtain ⟨rfl, rfl, rfl⟩ := ver_end (List.getElem?_eq_none hge) h
    refine ⟨hv, ?_⟩
    unfold PVer.result
    rw [if_neg (by omega), hb]
  | y :: sts, s, S, cells, S', s', xs, m, hv, hc, hx, hd, h0, hl, hb, h, hst, hm => by
    have hlt : s.at_ < s.todo.length := by
      have := congrArg List.length hd
      simp at this
      omega
    have hat : s.todo[s.at_]? = some (stA y.1 y.2) := by
      have e : (s.todo.drop s.at_)[0]? = s.todo[s.at_]? := by rw [List.getElem?_drop, Nat.add_zero]
      rw [← e, hd]
      rfl
    have ha : s.act = (⟨2, nb, (y.1 : Nat), 0, y.2, ByteArray.empty⟩, true) := by
      unfold PVer.act
      rw [hat]
      simp [h0, hb, stA]
    have hy := hx y (List.mem_cons_self ..)
    match xs, h with
    | [], h =>
      obtain ⟨rfl, rfl⟩ := h
      simp only [List.length_cons] at hm
      rcases hst with h1 | h1
      · simp at h1; omega
      · have : verRout.can S s = true := by
          show ((PVer.act s).2 && S.ready (PVer.act s).1) = true
          rw [ha, ready_storeB]
          rfl
        rw [this] at h1
        cases h1
    | z :: l, h =>
      obtain ⟨_, r2, _, h⟩ := h
      have e : S.act (verRout.act s).1 r2 = (⟨0, ByteArray.empty⟩, S.set nb y.1 y.2) := by
        show S.act (PVer.act s).1 r2 = _
        rw [ha]
        exact act_storeB hv.new y.1 (by show y.1 < cells.length; omega) y.2 r2
      rw [e] at h
      have htk : verRout.take s ⟨0, ByteArray.empty⟩ = ⟨s.todo, s.at_ + 1, nb⟩ := by
        show s.take _ = _
        unfold PVer.take
        have h00 : ¬ s.at_ = 0 := by omega
        rw [if_neg (by omega)]
        simp only [h00, if_false, hb, hnb]
      rw [htk] at h
      simp only [List.length_cons] at hm
      have hst2 : m - 1 ≤ (l.length : Nat) ∨ verRout.can S' s' = false := by
        rcases hst with h1 | h1
        · left; simp only [List.length_cons] at h1; omega
        · exact .inr h1
      refine ver_stores hnb sts ⟨s.todo, s.at_ + 1, nb⟩ (S.set nb y.1 y.2) (cells.set y.1 y.2) (hv.store _ _) (by simpa using hc) (fun x hxx => hx x (List.mem_cons_of_mem _ hxx)) ?_ (by show 0 < s.at_ + 1; omega) (by show s.at_ + 1 ≤ s.todo.length; omega) rfl h hst2 (by omega)
      show s.todo.drop (s.at_ + 1) = _
      rw [← List.drop_drop, hd]
      rfl
def verText (c : PChange) : ByteArray := if c.has then c.value else ByteArray.empty
/-- A version that is made alone. -/
theorem ver_alone0 {S S' : PHeap} {epoch next : Int} {c : PChange} {s' : PVer} {xs : List (PAct × PGot)} {m : Int} (hk : ∀ x ∈ S.blocks, x.key ≤ S.last) (hl : 0 ≤ S.last) (hc : c.value.size ≤ 1000) (h : Runs verRout S (newVer epoch next c) xs S' s') (hst : m ≤ (xs.length : Nat) ∨ verRout.can S' s' = false) (hm : 6 ≤ m) :
    ∃ r, VS S S' (S.last + 1) r [epoch, next, if c.has then 1 else 0] (verText c) ∧ s'.result = (S.last + 1, true) := by
  have hts : (verText c).size ≤ 4096 := by
    unfold verText
    split
    · omega
    · decide
  have hr5 : PAct.right ⟨5, 0, 3, 0, 0, verText c⟩ = true := by simp [PAct.right, PAct.fit, hts]
  have ha : (newVer epoch next c).act = (⟨5, 0, 3, 0, 0, verText c⟩, true) := rfl
  match xs, h with
  | [], h =>
    obtain ⟨rfl, rfl⟩ := h
    rcases hst with h1 | h1
    · simp at h1; omega
    · have : verRout.can S (newVer epoch next c) = true := by
        show ((PVer.act (newVer epoch next c)).2 && S.ready (PVer.act (newVer epoch next c)).1) = true
        rw [ha]
        simp [PHeap.ready, hr5]
      rw [this] at h1
      cases h1
  | z :: l, h =>
    obtain ⟨_, r2, _, h⟩ := h
    have e : S.act (verRout.act (newVer epoch next c)).1 r2 = (⟨S.last + 1, ByteArray.empty⟩, { S with blocks := S.blocks ++ [⟨S.last + 1, r2, List.replicate 3 0, verText c⟩], last := S.last + 1 }) := by
      show S.act (PVer.act (newVer epoch next c)).1 r2 = _
      rw [ha]
      simp [PHeap.act, hr5, PHeap.make]
    rw [e] at h
    have hnb : S.last + 1 ≠ 0 := by omega
    have htk : verRout.take (newVer epoch next c) ⟨S.last + 1, ByteArray.empty⟩ = ⟨verTodo epoch next c, 1, S.last + 1⟩ := by
      show (newVer epoch next c).take _ = _
      unfold PVer.take newVer
      rw [if_neg (by simp [verTodo])]
      simp [hnb]
    rw [htk] at h
    have hst2 : m - 1 ≤ (l.length : Nat) ∨ verRout.can S' s' = false := by
      rcases hst with h1 | h1
      · left; simp only [List.length_cons] at h1; omega
      · exact .inr h1
    have hv0 := VS.make hk r2 3 (verText c)
    by_cases hn : next = 0
    · cases hh : c.has with
      | false =>
        obtain ⟨k1, k2⟩ := ver_stores hnb [(0, epoch)] ⟨verTodo epoch next c, 1, S.last + 1⟩ _ _ hv0 rfl (by simp) (by simp [verTodo, hn, hh, stA]) (by show 0 < 1; decide) (by simp [verTodo]) rfl h hst2 (by simp; omega)
        exact ⟨r2, by rw [hn]; exact k1, k2⟩
      | true =>
        obtain ⟨k1, k2⟩ := ver_stores hnb [(0, epoch), (2, 1)] ⟨verTodo epoch next c, 1, S.last + 1⟩ _ _ hv0 rfl (by simp) (by simp [verTodo, hn, hh, stA]) (by show 0 < 1; decide) (by simp [verTodo]) rfl h hst2 (by simp; omega)
        exact ⟨r2, by rw [hn]; exact k1, k2⟩
    · cases hh : c.has with
      | false =>
        obtain ⟨k1, k2⟩ := ver_stores hnb [(0, epoch), (1, next)] ⟨verTodo epoch next c, 1, S.last + 1⟩ _ _ hv0 rfl (by simp) (by simp [verTodo, hn, hh, stA]) (by show 0 < 1; decide) (by simp [verTodo]) rfl h hst2 (by simp; omega)
        exact ⟨r2, k1, k2⟩
      | true =>
        obtain ⟨k1, k2⟩ := ver_stores hnb [(0, epoch), (1, next), (2, 1)] ⟨verTodo epoch next c, 1, S.last + 1⟩ _ _ hv0 rfl (by simp) (by simp [verTodo, hn, hh, stA]) (by show 0 < 1; decide) (by simp [verTodo]) rfl h hst2 (by simp; omega)
        exact ⟨r2, k1, k2⟩
/-- A version that is made alone. -/
theorem ver_alone {S S' : PHeap} {epoch next : Int} {c : PChange} {s' : PVer} {xs : List (PAct × PGot)} {m : Int} (hk : ∀ x ∈ S.blocks, x.key ≤ S.last) (hl : 1 ≤ S.last) (hc : c.value.size ≤ 1000) (h : Runs verRout S (newVer epoch next c) xs S' s') (hst : m ≤ (xs.length : Nat) ∨ verRout.can S' s' = false) (hm : 6 ≤ m) :
    ∃ r, VS S S' (S.last + 1) r [epoch, next, if c.has then 1 else 0] (verText c) ∧ s'.result = (S.last + 1, true) := ver_alone0 hk (by omega) hc h hst hm
end Go.Proofs.YtmlnhjfdhjachaaGreat
