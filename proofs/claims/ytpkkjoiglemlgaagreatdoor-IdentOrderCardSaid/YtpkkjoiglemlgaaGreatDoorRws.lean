/-
  Rows of rows of texts in memory: those that came in, those that a call has made (layer 4). No condition.
-/
import Derived.Test.YtpkkjoiglemlgaaGreatDoorQLineP
import Derived.Test.YtpkkjoiglemlgaaGreatDoorPlaces
namespace Go.Proofs.YtpkkjoiglemlgaaGreatDoor
set_option linter.unusedVariables false
open Go.RowKit Go.Extern.Stop Go.Stop Go.Extern Go.ChangeShapes

/-- Rows of rows of texts, all below a bound. -/
def LL (w : World) (B : Nat) (A : Option Addr) (rows : List (List (List UInt8))) : Prop :=
  0 < rows.length → ∃ ad, A = some ad ∧ ad.block < B ∧ ∀ i r, rows[i]? = some r → ∃ A' c, w.cell? (ad.add i) = some (.slice A' r.length c) ∧ r.length ≤ c ∧ c ≤ maxLen ∧ Reads w B 1 A' r.length (r.map strL)
theorem LL.nil {w : World} {B : Nat} {A : Option Addr} : LL w B A [] := fun h => absurd h (by simp)
theorem LL.below {w w' : World} {B : Nat} {A : Option Addr} {rows : List (List (List UInt8))} (h : LL w B A rows) (hb : Below B w w') : LL w' B A rows := fun h0 => by
  obtain ⟨ad, e, hB, hr⟩ := h h0
  refine ⟨ad, e, hB, fun i r hi => ?_⟩
  obtain ⟨A', c, h1, h2, h3, h4⟩ := hr i r hi
  exact ⟨A', c, (hb.cell (by rw [block_of_add]; exact hB)).trans h1, h2, h3, h4.below hb⟩
theorem LL.more {w : World} {B B' : Nat} {A : Option Addr} {rows : List (List (List UInt8))} (h : LL w B A rows) (hB : B ≤ B') : LL w B' A rows := fun h0 => by
  obtain ⟨ad, e, hb, hr⟩ := h h0
  refine ⟨ad, e, by omega, fun i r hi => ?_⟩
  obtain ⟨A', c, h1, h2, h3, h4⟩ := hr i r hi
  exact ⟨A', c, h1, h2, h3, h4.more hB⟩
theorem LL.at_ {w : World} {B : Nat} {A : Option Addr} {rows : List (List (List UInt8))} (h : LL w B A rows) {i : Nat} (hi : i < rows.length) : ∃ ad A' c, A = some ad ∧ ad.block < B ∧ w.cell? (ad.add i) = some (.slice A' rows[i].length c) ∧ rows[i].length ≤ c ∧ c ≤ maxLen ∧ Reads w B 1 A' rows[i].length (rows[i].map strL) := by
  obtain ⟨ad, e, hb, hr⟩ := h (by omega)
  obtain ⟨A', c, h1⟩ := hr i _ (List.getElem?_eq_getElem hi)
  exact ⟨ad, A', c, e, hb, h1⟩
/-- A row that a call has made. -/
def OwnRow (w : World) (B : Nat) (v : Value) (r : List (List UInt8)) : Prop := ∃ A c, v = .slice A r.length c ∧ w.ownsRow B 9 1 (.slice A r.length c) r.length (r.map strL)
theorem own_cap {w : World} {B n c : Nat} {e : TypeId} {A : Option Addr} {xs : List Value} (h : w.ownsRow B e 1 (.slice A n c) n xs) : n ≤ c ∧ c ≤ maxLen := by
  rcases h.2 with ⟨h0, rfl⟩ | ⟨g, cap, cur, h0, _, _, h1, h2, _⟩
  · injection h0 with _ _ h0
    subst h0
    exact ⟨Nat.le_refl _, Nat.zero_le _⟩
  · injection h0 with _ _ h0
    subst h0
    exact ⟨h1, h2⟩
theorem own_base4 {w : World} {B B' size n : Nat} {te : TypeId} {v : Value} {xs : List Value} (h : w.ownsRow B te size v n xs) (hB : B' ≤ B) : w.ownsRow B' te size v n xs := by
  obtain ⟨h1, h2⟩ := h
  refine ⟨h1, h2.imp id fun ⟨g, cap, cur, e1, e2, r⟩ => ⟨g, cap, cur, e1, by omega, r⟩⟩
theorem OwnRow.low {w : World} {B B' : Nat} {v : Value} {r : List (List UInt8)} (h : OwnRow w B v r) (hB : B' ≤ B) : OwnRow w B' v r := by
  obtain ⟨A, c, rfl, h1⟩ := h
  exact ⟨A, c, rfl, own_base4 h1 hB⟩
theorem OwnRow.below {w w' : World} {B : Nat} {v : Value} {r : List (List UInt8)} (h : OwnRow w B v r) (hb : Below w.heap.size w w') : OwnRow w' B v r := by
  obtain ⟨A, c, rfl, h1⟩ := h
  exact ⟨A, c, rfl, own_under h1 hb⟩
theorem OwnRow.grow {W w5 : World} {B n : Nat} {te : TypeId} {u v : Value} {r : List (List UInt8)} {ys : List Value} (h : OwnRow W B u r) (k : W.ownsRow B te 1 v n ys) (hne : te ≠ 9) (hg : W.grownBy w5 v.ownBlock) : OwnRow w5 B u r := by
  obtain ⟨A, c, rfl, h⟩ := h
  refine ⟨A, c, rfl, h.1, h.2.imp id ?_⟩
  rintro ⟨g, cap, cur, e1, e2, e3, e4⟩
  exact ⟨g, cap, cur, e1, e2, (hg.block g (Array.getElem?_eq_some_iff.1 e3).1 fun e => own_blk_ne k (show Blk W g 9 cur from e3) hne e.symm).trans e3, e4⟩
theorem infoStr : (Tryz.prog.info? 9).map (fun i => (i.zero, i.size, i.bytes)) = some (some (.string ⟨#[]⟩), 1, 16) := by kernel_rfl
end Go.Proofs.YtpkkjoiglemlgaaGreatDoor
