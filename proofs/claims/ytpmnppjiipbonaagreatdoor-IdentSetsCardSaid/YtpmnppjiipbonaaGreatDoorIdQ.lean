/-
  Sets of names (layer 12), plainly: a rising row, and two rows without order, with just the same names. No condition.
-/
import Derived.Test.YtpmnppjiipbonaaGreatDoorIdL
namespace Go.Proofs.YtpmnppjiipbonaaGreatDoor
set_option linter.unusedVariables false

structure Alike12 (ms ss : List (Int × Int)) : Prop where
  up : ms.Pairwise fun p q => idLt p q = true
  mem : ∀ p, p ∈ ms ↔ p ∈ ss
  nd : ss.Nodup
theorem idLt_irrefl (p : Int × Int) : idLt p p = false := by rw [idLt_not]; omega
theorem idLt_trans {p q r : Int × Int} (h1 : idLt p q = true) (h2 : idLt q r = true) : idLt p r = true := by rw [idLt_iff] at *; omega
theorem idLt_tri {p q : Int × Int} (h1 : idLt p q = false) (h2 : p ≠ q) : idLt q p = true := by
  rw [idLt_not] at h1
  rw [idLt_iff]
  by_cases hx : p.1 = q.1
  · by_cases hy : p.2 = q.2
    · exact absurd (Prod.ext hx hy) h2
    · omega
  · omega
theorem up_nodup {ms : List (Int × Int)} (h : ms.Pairwise fun p q => idLt p q = true) : ms.Nodup := h.imp fun {p q} h e => by rw [e, idLt_irrefl] at h; cases h
theorem Alike12.perm {ms ss : List (Int × Int)} (h : Alike12 ms ss) : ss.Perm ms := (List.perm_ext_iff_of_nodup h.nd (up_nodup h.up)).2 fun p => (h.mem p).symm
theorem Alike12.sort {ms ss : List (Int × Int)} (h : Alike12 ms ss) : sortIds ss = ms := sortIds_eq h.perm (h.up.imp fun {p q} h => by rw [idLt_iff] at h; omega)
theorem Alike12.len {ms ss : List (Int × Int)} (h : Alike12 ms ss) : ms.length = ss.length := h.perm.length_eq.symm
theorem Alike12.nil : Alike12 [] [] := ⟨List.Pairwise.nil, fun _ => Iff.rfl, List.nodup_nil⟩
/-- Between two rounds of Add. -/
def AddInv (q : Int × Int) (l : List (Int × Int)) (s : List (Int × Int) × Bool) : Prop :=
  (s.2 = false ∧ s.1 = l ∧ ∀ p ∈ l, idLt p q = true) ∨ (s.2 = true ∧ (s.1.Pairwise fun p q => idLt p q = true) ∧ (∀ x, x ∈ s.1 ↔ x ∈ l ∨ x = q) ∧ ∃ p ∈ l, idLt p q = false)
theorem addInv_step {q p : Int × Int} {l : List (Int × Int)} {s : List (Int × Int) × Bool} (hl : (l ++ [p]).Pairwise fun p q => idLt p q = true) (h : AddInv q l s) : AddInv q (l ++ [p]) (addStep q s p) := by
  obtain ⟨R, dn⟩ := s
  obtain ⟨hl1, _, hlp⟩ := List.pairwise_append.1 hl
  have hlt : ∀ x ∈ l, idLt x p = true := fun x hx => hlp x hx p (by simp)
  rcases h with ⟨h1, h2, h3⟩ | ⟨h1, h2, h3, p0, hp0, h4⟩
  · simp only at h1 h2
    subst h1 h2
    by_cases hpq : idLt p q = true
    · have hne : p ≠ q := fun e => by rw [e, idLt_irrefl] at hpq; cases hpq
      left
      have e : addStep q (R, false) p = (R ++ [p], false) := by unfold addStep addIn; simp [hpq, hne]
      rw [e]
      refine ⟨rfl, rfl, fun x hx => ?_⟩
      rcases List.mem_append.1 hx with hx | hx
      · exact h3 x hx
      · rw [List.mem_singleton.1 hx]; exact hpq
    · have hpq' : idLt p q = false := by simpa using hpq
      right
      have hq : (R ++ [q]).Pairwise fun p q => idLt p q = true := List.pairwise_append.2 ⟨hl1, List.pairwise_singleton _ _, fun x hx y hy => by rw [List.mem_singleton.1 hy]; exact h3 x hx⟩
      by_cases hne : p = q
      · subst hne
        have e : addStep p (R, false) p = (R ++ [p], true) := by unfold addStep addIn; simp [hpq']
        rw [e]
        refine ⟨rfl, hq, fun x => by simp, p, by simp, hpq'⟩
      · have e : addStep q (R, false) p = ((R ++ [q]) ++ [p], true) := by unfold addStep addIn; simp [hpq', hne]
        rw [e]
        have hqp := idLt_tri hpq' hne
        refine ⟨rfl, List.pairwise_append.2 ⟨hq, List.pairwise_singleton _ _, fun x hx y hy => ?_⟩, fun x => ?_, p, by simp, hpq'⟩
        · rw [List.mem_singleton.1 hy]
          rcases List.mem_append.1 hx with hx | hx
          · exact hlt x hx
          · rw [List.mem_singleton.1 hx]; exact hqp
        · simp only [List.mem_append, List.mem_singleton]
          constructor
          · rintro ((h | h) | h)
            · exact .inl (.inl h)
            · exact .inr h
            · exact .inl (.inr h)
          · rintro ((h | h) | h)
            · exact .inl (.inl h)
            · exact .inr h
            · exact .inl (.inr h)
  · simp only at h1 h2 h3
    subst h1
    have hqp : idLt q p = true := by
      have := hlt p0 hp0
      by_cases e : p0 = q
      · rw [← e]; exact this
      · exact idLt_trans (idLt_tri h4 e) this
    have hne : p ≠ q := fun e => by rw [e, idLt_irrefl] at hqp; cases hqp
    have e : addStep q (R, true) p = (R ++ [p], true) := by unfold addStep addIn; simp [hne]
    rw [e]
    right
    refine ⟨rfl, List.pairwise_append.2 ⟨h2, List.pairwise_singleton _ _, fun x hx y hy => ?_⟩, fun x => ?_, p0, by simp [hp0], h4⟩
    · rw [List.mem_singleton.1 hy]
      rcases (h3 x).1 hx with hx | hx
      · exact hlt x hx
      · rw [hx]; exact hqp
    · simp only [List.mem_append, List.mem_singleton, h3]
      constructor
      · rintro ((h | h) | h)
        · exact .inl (.inl h)
        · exact .inr h
        · exact .inl (.inr h)
      · rintro ((h | h) | h)
        · exact .inl (.inl h)
        · exact .inr h
        · exact .inl (.inr h)
theorem addInv_all {q : Int × Int} : ∀ (l2 l1 : List (Int × Int)) (s : List (Int × Int) × Bool), ((l1 ++ l2).Pairwise fun p q => idLt p q = true) → AddInv q l1 s → AddInv q (l1 ++ l2) (l2.foldl (addStep q) s)
  | [], l1, s, _, h => by simpa using h
  | p :: l2, l1, s, hl, h => by
    have e : l1 ++ p :: l2 = (l1 ++ [p]) ++ l2 := by simp
    rw [e] at hl ⊢
    exact addInv_all l2 (l1 ++ [p]) (addStep q s p) hl (addInv_step (List.pairwise_append.1 hl).1 h)
theorem addL_up {q : Int × Int} {l : List (Int × Int)} (hl : l.Pairwise fun p q => idLt p q = true) : ((addL q l).Pairwise fun p q => idLt p q = true) ∧ ∀ x, x ∈ addL q l ↔ x ∈ l ∨ x = q := by
  have h := addInv_all (q := q) l [] ([], false) (by simpa using hl) (.inl ⟨rfl, rfl, fun p hp => by cases hp⟩)
  unfold addL addFold
  rw [List.nil_append] at h
  rcases h with ⟨h1, h2, h3⟩ | ⟨h1, h2, h3, _⟩
  · rw [h1, h2]
    refine ⟨?_, fun x => by simp⟩
    simp only [Bool.false_eq_true, if_false]
    exact List.pairwise_append.2 ⟨hl, List.pairwise_singleton _ _, fun x hx y hy => by rw [List.mem_singleton.1 hy]; exact h3 x hx⟩
  · rw [h1]
    exact ⟨h2, h3⟩
theorem mem_addIds {ids : List (Int × Int)} {k x : Int × Int} : x ∈ addIds ids k ↔ x ∈ ids ∨ x = k := by
  unfold addIds
  split
  · constructor
    · exact .inl
    · rintro (h | rfl)
      · exact h
      · assumption
  · simp
theorem addIds_len (ids : List (Int × Int)) (k : Int × Int) : (addIds ids k).length ≤ ids.length + 1 := by
  unfold addIds
  split <;> simp
theorem Alike12.add {ms ss : List (Int × Int)} (h : Alike12 ms ss) (q : Int × Int) : Alike12 (addL q ms) (addIds ss q) := by
  obtain ⟨h1, h2⟩ := addL_up (q := q) h.up
  refine ⟨h1, fun x => by rw [h2, mem_addIds, h.mem], ?_⟩
  unfold addIds
  split
  · exact h.nd
  · rename_i hn
    exact List.nodup_append.2 ⟨h.nd, by simp, fun a ha b hb e => by rw [List.mem_singleton] at hb; subst hb; subst e; exact hn ha⟩
theorem Alike12.drop {ms ss : List (Int × Int)} (h : Alike12 ms ss) (q : Int × Int) : Alike12 (ms.filter fun p => p != q) (ss.filter fun p => p != q) :=
  ⟨h.up.sublist List.filter_sublist, fun x => by simp [h.mem], h.nd.sublist List.filter_sublist⟩
end Go.Proofs.YtpmnppjiipbonaaGreatDoor
