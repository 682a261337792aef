/-
  Rows of rows of texts in memory: those that came in, those that a call has made (layer 4). No condition.
-/
import Derived.Test.YtpmnppjiipbonaaDoorQLineP
import Derived.Test.YtpmnppjiipbonaaDoorPlaces
namespace Go.Proofs.YtpmnppjiipbonaaDoor
set_option linter.unusedVariables false
open Go.RowKit Go.Extern.Stop Go.Stop Go.Extern Go.ChangeShapes

/-- Rows of rows of texts, all below a bound. -/
def LL (w : World) (B : Nat) (A : Option Addr) (rows : List (List (List UInt8))) : Prop :=
  0 < rows.length → ∃ ad, A = some ad ∧ ad.block < B ∧ ∀ i r, rows[i]? = some r → ∃ A' c, w.cell? (ad.add i) = some (.slice A' r.length c) ∧ r.length ≤ c ∧ c ≤ maxLen ∧ Reads w B 1 A' r.length (r.map strL)
theorem LL.nil {w : World} {B : Nat} {A : Option Addr} : LL w B A [] := fun h => absurd h (by simp)
theorem LL.below {w w' : World} {B : Nat} {A : Option Addr} {rows : List (List (List UInt8))} (h : LL w B A rows) (hb : Below B w w') : LL w' B A rows := fun h0 => by
  obtain ⟨ad, e, hB, hr⟩ := h h0
  refine ⟨ad, e, hB, fun i r hi => ?_⟩
  obtain ⟨A', c, h1, h2, h3, h4⟩ := hr i r hi
  exact ⟨A', c, (hb.cell (by rw [block_of_add]; exact hB)).trans h1, h2, h3, h4.below hb⟩
theorem LL.more {w : World} {B B' : Nat} {A : Option Addr} {rows : List (List (List UInt8))} (h : LL w B A rows) (hB : B ≤ B') : LL w B' A rows := fun h0 => by
  obtain ⟨ad, e, hb, hr⟩ := h h0
  refine ⟨ad, e, by omega, fun i r hi => ?_⟩
  obtain ⟨A', c, h1, h2, h3, h4⟩ := hr i r hi
  exact ⟨A', c, h1, h2, h3, h4.more hB⟩
theorem LL.at_ {w : World} {B : Nat} {A : Option Addr} {rows : List (List (List UInt8))} (h : LL w B A rows) {i : Nat} (hi : i < rows.length) : ∃ ad A' c, A = some ad ∧ ad.block < B ∧ w.cell? (ad.add i) = some (.slice A' rows[i].length c) ∧ rows[i].length ≤ c ∧ c ≤ maxLen ∧ Reads w B 1 A' rows[i].length (rows[i].map strL) := by
  obtain ⟨ad, e, hb, hr⟩ := h (by omega)
  obtain ⟨A', c, h1⟩ := hr i _ (List.getElem?_eq_getElem hi)
  exact ⟨ad, A', c, e, hb, h1⟩
/-- A row that a call has made. -/
def OwnRow (w : World) (B : Nat) (v : Value) (r : List (List UInt8)) : Prop := ∃ A c, v = .slice A r.length c ∧ w.ownsRow B 9 1 (.slice A r.length c) r.length (r.map strL)
/-- Rows that a call has made: their cells, their words. -/
structure OwnV (w : World) (B : Nat) (v : Value) (vs : List Value) (rows : List (List (List UInt8))) : Prop where
  own : w.ownsRow B 33 1 v rows.length vs
  each : ∀ (i : Nat) u r, vs[i]? = some u → rows[i]? = some r → OwnRow w B u r
theorem own_cap {w : World} {B n c : Nat} {e : TypeId} {A : Option Addr} {xs : List Value} (h : w.ownsRow B e 1 (.slice A n c) n xs) : n ≤ c ∧ c ≤ maxLen := by
  rcases h.2 with ⟨h0, rfl⟩ | ⟨g, cap, cur, h0, _, _, h1, h2, _⟩
  · injection h0 with _ _ h0
    subst h0
    exact ⟨Nat.le_refl _, Nat.zero_le _⟩
  · injection h0 with _ _ h0
    subst h0
    exact ⟨h1, h2⟩
theorem own_base4 {w : World} {B B' size n : Nat} {te : TypeId} {v : Value} {xs : List Value} (h : w.ownsRow B te size v n xs) (hB : B' ≤ B) : w.ownsRow B' te size v n xs := by
  obtain ⟨h1, h2⟩ := h
  refine ⟨h1, h2.imp id fun ⟨g, cap, cur, e1, e2, r⟩ => ⟨g, cap, cur, e1, by omega, r⟩⟩
theorem OwnRow.low {w : World} {B B' : Nat} {v : Value} {r : List (List UInt8)} (h : OwnRow w B v r) (hB : B' ≤ B) : OwnRow w B' v r := by
  obtain ⟨A, c, rfl, h1⟩ := h
  exact ⟨A, c, rfl, own_base4 h1 hB⟩
theorem OwnRow.below {w w' : World} {B : Nat} {v : Value} {r : List (List UInt8)} (h : OwnRow w B v r) (hb : Below w.heap.size w w') : OwnRow w' B v r := by
  obtain ⟨A, c, rfl, h1⟩ := h
  exact ⟨A, c, rfl, own_under h1 hb⟩
theorem OwnV.len {w : World} {B : Nat} {v : Value} {vs : List Value} {rows : List (List (List UInt8))} (h : OwnV w B v vs rows) : vs.length = rows.length := by have := h.own.1; omega
theorem OwnV.below {w w' : World} {B : Nat} {v : Value} {vs : List Value} {rows : List (List (List UInt8))} (h : OwnV w B v vs rows) (hb : Below w.heap.size w w') : OwnV w' B v vs rows :=
  ⟨own_under h.own hb, fun i u r hu hr => (h.each i u r hu hr).below hb⟩
theorem OwnV.ll {w : World} {B : Nat} {A : Option Addr} {n c : Nat} {vs : List Value} {rows : List (List (List UInt8))} (h : OwnV w B (.slice A n c) vs rows) : LL w w.heap.size A rows := by
  have hn : n = rows.length := by
    rcases h.own.2 with ⟨h1, h2⟩ | ⟨g, cap, cur, h1, _⟩
    · injection h1 with _ e _; omega
    · injection h1
  subst hn
  intro h0
  obtain ⟨ad, e, hb, hr⟩ := (Reads.of_own h.own).2 h0
  refine ⟨ad, e, hb, fun i r hi => ?_⟩
  have hil : i < vs.length := by rw [h.len]; exact (List.getElem?_eq_some_iff.1 hi).1
  obtain ⟨A', c', e', h4⟩ := h.each i _ r (List.getElem?_eq_getElem hil) hi
  refine ⟨A', c', ?_, (own_cap h4).1, (own_cap h4).2, Reads.of_own h4⟩
  rw [hr i _ (List.getElem?_eq_getElem hil), e']
theorem OwnV.nil (w : World) (B : Nat) : OwnV w B (.slice none 0 0) [] [] :=
  ⟨World.ownsRow_nil _ _ _ _, fun i u r h => by simp at h⟩
theorem OwnRow.grow {W w5 : World} {B n : Nat} {te : TypeId} {u v : Value} {r : List (List UInt8)} {ys : List Value} (h : OwnRow W B u r) (k : W.ownsRow B te 1 v n ys) (hne : te ≠ 9) (hg : W.grownBy w5 v.ownBlock) : OwnRow w5 B u r := by
  obtain ⟨A, c, rfl, h⟩ := h
  refine ⟨A, c, rfl, h.1, h.2.imp id ?_⟩
  rintro ⟨g, cap, cur, e1, e2, e3, e4⟩
  exact ⟨g, cap, cur, e1, e2, (hg.block g (Array.getElem?_eq_some_iff.1 e3).1 fun e => own_blk_ne k (show Blk W g 9 cur from e3) hne e.symm).trans e3, e4⟩
/-- One row more, behind append. -/
theorem OwnV.snoc {W w5 : World} {B : Nat} {v v' u : Value} {vs : List Value} {rows : List (List (List UInt8))} {r : List (List UInt8)} (h : OwnV W B v vs rows) (hu : OwnRow W B u r) (hown : w5.ownsRow B 33 1 v' (rows.length + 1) (vs ++ [u])) (hg : W.grownBy w5 v.ownBlock) : OwnV w5 B v' (vs ++ [u]) (rows ++ [r]) := by
  refine ⟨by simpa using hown, fun i x y hx hy => ?_⟩
  have hl := h.len
  by_cases hi : i < vs.length
  · rw [List.getElem?_append_left hi] at hx
    rw [List.getElem?_append_left (by omega)] at hy
    exact (h.each i x y hx hy).grow h.own (by decide) hg
  · have hi2 : i = vs.length := by
      have := (List.getElem?_eq_some_iff.1 hx).1
      simp at this; omega
    subst hi2
    rw [List.getElem?_concat_length] at hx
    rw [hl, List.getElem?_concat_length] at hy
    injection hx with hx
    injection hy with hy
    subst hx hy
    exact hu.grow h.own (by decide) hg
theorem infoStr : (Tryd.prog.info? 9).map (fun i => (i.zero, i.size, i.bytes)) = some (some (.string ⟨#[]⟩), 1, 16) := by kernel_rfl
theorem infoStrs : (Tryd.prog.info? 33).map (fun i => (i.zero, i.size, i.bytes)) = some (some (.slice none 0 0), 1, 24) := by kernel_rfl
end Go.Proofs.YtpmnppjiipbonaaDoor
