/-
  How rows of rows of texts among the arguments are opened (layer 4). No condition.
-/
import Derived.Test.YtpmnppjiipbonaaDoorRws
import Derived.Test.YtpmnppjiipbonaaDoorFrame
namespace Go.Proofs.YtpmnppjiipbonaaDoor
set_option linter.unusedVariables false
open Go.ChangeShapes Go.WideShapes Go.ChangeAt Go.RowKit
section
variable {H : Type} {enc : TypeId × Value → H}
theorem open_texts {P : Program} {w : World} {e s : TypeId} {n : Nat} {v : Value} {D : DataW H} {Pl : List MemPlace} (he : P.underlying e = some (.slice s)) (hs : P.underlying s = some .string) (hcs : P.cellsOf s = 1)
    (h : DataW.trod enc P w 0 (fun _ => true) true n e [v] = some (D, Pl)) (hlt : ∀ x ∈ Pl, x.block < w.heap.size) :
    ∃ (r : List (List UInt8)) (A : Option Addr) (c : Nat), v = .slice A r.length c ∧ r.length ≤ c ∧ c ≤ maxLen ∧ Reads w w.heap.size 1 A r.length (r.map strL) := by
  rcases Deep.open_slice1 he hcs h with ⟨hv, _⟩ | ⟨a, len, cap, m, n', V, D', Pl', hv, _, hl, hm, hmm, hx, hi⟩
  · injection hv with hv _
    exact ⟨[], none, 0, hv, Nat.le_refl _, Nat.zero_le _, Reads.none_⟩
  · injection hv with hv _
    simp only [if_true] at hmm
    subst hmm
    have each : ∀ i, i < len → ∃ x : List UInt8, w.cell? (a.add i) = some (strL x) := by
      intro i hil
      obtain ⟨h1, h2⟩ := hi i (by omega)
      obtain ⟨b, hb, _⟩ := DataW.trod_string hs h2
      have e : V i = .string b := by
        have : [V i] = [Value.string b] := hb
        injection this
      refine ⟨b.data.toList, h1.trans ?_⟩
      rw [e, strL, show bs b.data.toList = b from ba_ext (list_bs _)]
    obtain ⟨r, hrl, hr⟩ := list_of_each len each
    subst hrl
    refine ⟨r, some a, m, hv, hl, hm, by simp, fun hn => ⟨a, rfl, ?_, fun j u hu => ?_⟩⟩
    · simp only [Prod.mk.injEq] at hx
      exact hlt (.cell a.block a.off) (by rw [hx.2]; exact List.mem_append_left _ (row_mem a _ (by omega)))
    · rw [List.getElem?_map, Option.map_eq_some_iff] at hu
      obtain ⟨x, hx1, rfl⟩ := hu
      exact hr j x hx1
/-- A slice of slices of texts. -/
theorem open_rows {P : Program} {w : World} {t e s : TypeId} {v : Value} {d : DataW H} {ps : List MemPlace} {b0 : Nat} (ht : P.underlying t = some (.slice e)) (he : P.underlying e = some (.slice s)) (hs : P.underlying s = some .string) (hce : P.cellsOf e = 1) (hcs : P.cellsOf s = 1)
    (hv : Value.okWide P w .any b0 t v) (h : DataW.Trod enc P w 0 (fun _ => true) true t v d ps) (hlt : ∀ x ∈ ps, x.block < w.heap.size) :
    ∃ (A : Option Addr) (cap : Nat) (rows : List (List (List UInt8))), v = .slice A rows.length cap ∧ rows.length ≤ maxLen ∧ LL w w.heap.size A rows := by
  obtain ⟨a0, len, cap, rfl⟩ := okWide_slice ht hv
  obtain ⟨fuel, hf⟩ := h
  rcases Deep.open_slice1 ht hce hf with ⟨hv', _⟩ | ⟨a, len', cap', m, n, V, D, Pl, hv', _, hl, hm, hmm, hx, hi⟩
  · simp only [Value.cells] at hv'
    obtain ⟨rfl, rfl, rfl⟩ : a0 = none ∧ len = 0 ∧ cap = 0 := by simpa using hv'
    exact ⟨none, 0, [], rfl, Nat.zero_le _, LL.nil⟩
  · obtain ⟨rfl, rfl, rfl⟩ : a0 = some a ∧ len = len' ∧ cap = cap' := by simpa [Value.cells] using hv'
    simp only [if_true] at hmm
    subst hmm
    have hpl : ∀ i, i < m → ∀ x ∈ Pl i, x.block < w.heap.size := fun i hi2 x hx2 => hlt x (by
      simp only [Prod.mk.injEq] at hx
      rw [hx.2]
      exact List.mem_append_right _ (List.mem_flatMap.2 ⟨i, List.mem_range.2 hi2, hx2⟩))
    have each : ∀ i, i < len → ∃ r : List (List UInt8), ∃ A' c, w.cell? (a.add i) = some (.slice A' r.length c) ∧ r.length ≤ c ∧ c ≤ maxLen ∧ Reads w w.heap.size 1 A' r.length (r.map strL) := by
      intro i hil
      obtain ⟨h1, h2⟩ := hi i (by omega)
      obtain ⟨r, A', c, h3, h4, h5, h6⟩ := open_texts he hs hcs h2 (hpl i (by omega))
      exact ⟨r, A', c, h1.trans (by rw [h3]), h4, h5, h6⟩
    obtain ⟨rows, hrl, hr⟩ := list_of_each len each
    subst hrl
    refine ⟨some a, m, rows, rfl, by omega, fun hn => ⟨a, rfl, ?_, hr⟩⟩
    simp only [Prod.mk.injEq] at hx
    exact hlt (.cell a.block a.off) (by rw [hx.2]; exact List.mem_append_left _ (row_mem a _ (by omega)))
end
end Go.Proofs.YtpmnppjiipbonaaDoor
