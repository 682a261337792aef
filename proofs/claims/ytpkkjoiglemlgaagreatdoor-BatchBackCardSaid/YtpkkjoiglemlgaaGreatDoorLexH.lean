/-
  A region that draws its order, walked in ONE order that is given: what reads what nobody turns is taken first, all else comes up alone; the condition on the world may grow on the way. No condition.
-/
import Derived.Test.YtpkkjoiglemlgaaGreatDoorProg
import Derived.Test.YtpkkjoiglemlgaaGreatDoorBase
import Derived.Deep.RegionHeld3
namespace Go.Proofs.YtpkkjoiglemlgaaGreatDoor
set_option linter.unusedVariables false
open Go.ChangeShapes Go.WideShapes Go.ChangeAt Go.RowKit

theorem wpAnyH_sub {P : Program} {md : Region.Mode} {ops : Array Oper} {Q : Exit → Act → World → Prop} {S S' : World → Prop} (hS : ∀ w, S' w → S w) : ∀ (fuel : Nat) (listed : Array Bool) (a : Act) (w : World), wpAnyH P md ops Q S' fuel listed a w → wpAnyH P md ops Q S fuel listed a w
  | 0, _, _, _, h => h
  | f + 1, _, _, _, h => ⟨h.1, fun i hi => wpOp_mono (fun a' w' h' => ⟨hS _ h'.1, wpAnyH_sub hS f _ a' w' h'.2⟩) (h.2 i hi)⟩
/-- Is the order one that the walk may take? -/
def lexOK (md : Region.Mode) (ops : Array Oper) : List (Bool × Nat) → Array Bool → Bool
  | [], listed => (Region.ready md ops listed).isEmpty
  | (true, k) :: t, listed => (Region.ready md ops listed).contains k && Region.free md ops listed k && lexOK md ops t (listed.setIfInBounds k true)
  | (false, k) :: t, listed => decide (Region.ready md ops listed = [k]) && lexOK md ops t (listed.setIfInBounds k true)
/-- Only the common way out. -/
def OnlyN (R : Act → World → Prop) : Exit → Act → World → Prop
  | .normal, a, w => R a w
  | _, _, _ => False
def wpLex (P : Program) (l : List Oper) (R : Act → World → Prop) : List (Bool × Nat) → (World → Prop) → Act → World → Prop
  | [], _, a, w => R a w
  | (b, k) :: t, S, a, w => ∃ o, l[k]? = some o ∧ (if Region.wanted o (yielded l.toArray a.tmps) = true then
      (if b = true then S w ∧ ∃ v, (∀ w', S w' → (execOp a.eval o).run P w' = .ok (.value v) w') ∧ wpLex P l R t S (a.put o.dst v) w
       else o.wp P a w (fun a' w' => ∃ S' : World → Prop, (∀ w, S' w → S w) ∧ S' w' ∧ wpLex P l R t S' a' w') (OnlyN R))
      else S w ∧ wpLex P l R t S (a.put o.dst undef) w)
section
variable {P : Program} {l : List Oper} {R : Act → World → Prop} {k : Nat} {b : Bool} {t : List (Bool × Nat)} {S : World → Prop} {a : Act} {w : World} {o : Oper} {v : Value}
theorem lex_take (ho : l[k]? = some o) (hw : Region.wanted o (yielded l.toArray a.tmps) = true) (hS : S w)
    (hy : ∀ w', S w' → (execOp a.eval o).run P w' = .ok (.value v) w') (h : wpLex P l R t S (a.put o.dst v) w) : wpLex P l R ((true, k) :: t) S a w := by
  unfold wpLex
  refine ⟨o, ho, ?_⟩
  rw [if_pos hw, if_pos rfl]
  exact ⟨hS, v, hy, h⟩
theorem lex_pass (ho : l[k]? = some o) (hw : Region.wanted o (yielded l.toArray a.tmps) = false) (hS : S w)
    (h : wpLex P l R t S (a.put o.dst undef) w) : wpLex P l R ((b, k) :: t) S a w := by
  unfold wpLex
  refine ⟨o, ho, ?_⟩
  rw [if_neg (by rw [hw]; exact Bool.false_ne_true)]
  exact ⟨hS, h⟩
theorem lex_call (ho : l[k]? = some o) (hw : Region.wanted o (yielded l.toArray a.tmps) = true)
    (h : ∀ K : Act → World → Prop, Hid (∀ (a' : Act) (w' : World) (S' : World → Prop), (∀ w, S' w → S w) → S' w' → wpLex P l R t S' a' w' → K a' w') → o.wp P a w K (OnlyN R)) : wpLex P l R ((false, k) :: t) S a w := by
  unfold wpLex
  refine ⟨o, ho, ?_⟩
  rw [if_pos hw, if_neg (by simp)]
  exact h _ (Lib.hid fun a' w' S' h1 h2 h3 => ⟨S', h1, h2, h3⟩)
theorem lex_end (h : R a w) : wpLex P l R [] S a w := h
/-- It is a wpAnyH. -/
theorem wpAnyH_of_lex {md : Region.Mode} (hs : Region.noSelect l.toArray = true) : ∀ (ord : List (Bool × Nat)) (listed : Array Bool) (S : World → Prop) (a : Act) (w : World), lexOK md l.toArray ord listed = true →
    wpLex P l R ord S a w → wpAnyH P md l.toArray (OnlyN R) S ord.length listed a w
  | [], listed, S, a, w, hB, h => ⟨by simpa [lexOK] using hB, h⟩
  | (true, k) :: t, listed, S, a, w, hB, h => by
    simp only [lexOK, Bool.and_eq_true] at hB
    obtain ⟨⟨hr, hf⟩, hB'⟩ := hB
    obtain ⟨o, ho, h⟩ := h
    have hi : l.toArray[k]? = some o := by simpa using ho
    by_cases hw : Region.wanted o (yielded l.toArray a.tmps) = true
    · rw [if_pos hw, if_pos rfl] at h
      obtain ⟨hS, v, hy, h⟩ := h
      exact wpAnyH_take hi hs hf hr (fun _ _ _ h => h) (Or.inl ⟨hw, hy⟩) hS (wpAnyH_of_lex hs t _ S _ w hB' h)
    · rw [if_neg hw] at h
      obtain ⟨hS, h⟩ := h
      exact wpAnyH_take hi hs hf hr (fun _ _ _ h => h) (Or.inr ⟨by simpa using hw, rfl⟩) hS (wpAnyH_of_lex hs t _ S _ w hB' h)
  | (false, k) :: t, listed, S, a, w, hB, h => by
    simp only [lexOK, Bool.and_eq_true, decide_eq_true_eq] at hB
    obtain ⟨hr, hB'⟩ := hB
    obtain ⟨o, ho, h⟩ := h
    have hi : l.toArray[k]? = some o := by simpa using ho
    refine ⟨fun h0 => (by rw [hr] at h0; cases h0), fun i hir => ?_⟩
    rw [hr] at hir
    have hik : i = k := by simpa using hir
    subst hik
    unfold wpOp
    simp only [hi]
    by_cases hw : Region.wanted o (yielded l.toArray a.tmps) = true
    · rw [if_pos hw] at h ⊢
      rw [if_neg (by simp)] at h
      exact .inl (Oper.wp_mono (fun a' w' ⟨S', h1, h2, h3⟩ => ⟨h1 _ h2, wpAnyH_sub h1 _ _ _ _ (wpAnyH_of_lex hs t _ S' a' w' hB' h3)⟩) h)
    · rw [if_neg hw] at h ⊢
      exact ⟨h.1, wpAnyH_of_lex hs t _ S _ w hB' h.2⟩
end
def lexStart (l : List Oper) (ord : List (Bool × Nat)) : Bool := Region.noSelect l.toArray && decide (ord.length = l.length) && lexOK .any l.toArray ord (Array.replicate l.length false)
/-- THE BEGINNING. -/
theorem wp_region_lex {P : Program} {id : Nat} {Q : Exit → Act → World → Prop} {a : Act} {w : World} {l : List Oper} (ord : List (Bool × Nat)) (S : World → Prop) (hm : P.follows .mixedOrders = true) (hB : lexStart l ord = true)
    (h : ∀ R : Act → World → Prop, Hid (∀ a w, Q .normal a w → R a w) → wpLex P l R ord S a w.drew) : (Code.region id l.toArray true).wp P Q a w := by
  simp only [lexStart, Bool.and_eq_true, decide_eq_true_eq] at hB
  obtain ⟨⟨hs, hl⟩, hB⟩ := hB
  have h1 := wpAnyH_of_lex (md := .any) hs ord _ S a w.drew hB (h (fun a w => Q .normal a w) (Lib.hid fun _ _ h => h))
  rw [hl] at h1
  refine Code.wp_mono (fun e a w h => ?_) (wp_region_held (P := P) (id := id) (ops := l.toArray) (Q := OnlyN fun a w => Q .normal a w) (S := S) (a := a) (w := w) hm (by simp only [List.size_toArray]; exact h1))
  cases e <;> first | exact h | exact (h : False).elim
end Go.Proofs.YtpkkjoiglemlgaaGreatDoor
