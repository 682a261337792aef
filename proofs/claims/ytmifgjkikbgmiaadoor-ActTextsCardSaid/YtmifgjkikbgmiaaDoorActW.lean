/-
  The text of an act, plainly: its words; unlike acts have unlike texts. No program in sight. No condition.
-/
import Derived.Test.YtmifgjkikbgmiaaDoorAct
import Derived.Test.YtmifgjkikbgmiaaDoorQuoteP
import Derived.Test.YtmifgjkikbgmiaaDoorQLineP
import Derived.Lib.ItoaLen
namespace Go.Proofs.YtmifgjkikbgmiaaDoor
set_option linter.unusedVariables false
open Go.Lib

/-- The name of a kind. -/
def actName : Nat → List UInt8
  | 0 => [110, 111, 110, 101]
  | 1 => [108, 111, 97, 100]
  | 2 => [115, 116, 111, 114, 101]
  | 3 => [115, 119, 97, 112]
  | 4 => [98, 117, 109, 112]
  | 5 => [109, 97, 107, 101]
  | 6 => [119, 111, 114, 100, 115]
  | 7 => [100, 114, 111, 112]
  | 8 => [108, 111, 99, 107]
  | 9 => [117, 110, 108, 111, 99, 107]
  | _ => [97, 119, 97, 105, 116]
/-- What stands behind the name. -/
def actRest (x : PAct) : List (List UInt8) :=
  (if x.kind = 1 ∨ x.kind = 2 ∨ x.kind = 3 ∨ x.kind = 4 ∨ x.kind = 6 ∨ x.kind = 7 ∨ x.kind = 10 then [decDigits x.block.toNat] else []) ++
  ((if x.kind = 1 ∨ x.kind = 2 ∨ x.kind = 3 ∨ x.kind = 4 ∨ x.kind = 5 ∨ x.kind = 10 then [decDigits x.cell.toNat] else []) ++
  ((if x.kind = 3 then [decDigits x.old.toNat] else []) ++
  ((if x.kind = 2 ∨ x.kind = 3 ∨ x.kind = 4 then [decDigits x.new.toNat] else []) ++
  (if x.kind = 5 then [qprint x.text.data.toList] else []))))
/-- The text. -/
def actText (x : PAct) : List UInt8 := if x.right then actName x.kind.toNat ++ (actRest x).flatMap fun y => 32 :: y else []

theorem dec_seen (n : Nat) : ∀ c ∈ decDigits n, 48 ≤ c.toNat ∧ c.toNat ≤ 57 := by
  induction n using Nat.strongRecOn with
  | _ n ih =>
    intro c hc
    rw [decDigits] at hc
    split at hc
    · simp only [List.mem_singleton] at hc
      subst hc
      simp; omega
    · rcases List.mem_append.1 hc with h | h
      · exact ih (n / 10) (by omega) c h
      · simp only [List.mem_singleton] at h
        subst h
        simp; omega
def decVal (l : List UInt8) : Nat := l.foldl (fun a c => 10 * a + (c.toNat - 48)) 0
theorem decVal_dec (n : Nat) : decVal (decDigits n) = n := by
  induction n using Nat.strongRecOn with
  | _ n ih =>
    rw [decDigits]
    split
    · simp [decVal]; omega
    · have := ih (n / 10) (by omega)
      unfold decVal at this ⊢
      rw [List.foldl_append, this]
      simp; omega
theorem dec_inj {m n : Nat} (h : decDigits m = decDigits n) : m = n := by rw [← decVal_dec m, h, decVal_dec]
theorem qprint_inj {a b : List UInt8} (h : qprint a = qprint b) : a = b := by
  have := qparse_qprint a
  rw [h, qparse_qprint b] at this
  injection this with e _
  exact e.symm
theorem qrow_flat (x : List UInt8) : ∀ r : List (List UInt8), qrow (x :: r) = x ++ r.flatMap fun y => 32 :: y
  | [] => by simp [qrow]
  | y :: r => by rw [qrow, qrow_flat y r]; simp
theorem noblank_dec (n : Nat) : (32 : UInt8) ∉ decDigits n := fun h => by have := dec_seen n 32 h; simp at this
theorem noblank_q (l : List UInt8) : (32 : UInt8) ∉ qprint l := fun h => by have := qprint_seen l 32 h; simp at this
theorem noblank_name (k : Nat) : (32 : UInt8) ∉ actName k := by
  unfold actName
  split <;> simp
theorem noblank_rest (x : PAct) : ∀ y ∈ actRest x, (32 : UInt8) ∉ y := by
  intro y hy
  have one : ∀ (p : Prop) [Decidable p] (u : List UInt8), y ∈ (if p then [u] else []) → (32 : UInt8) ∉ u → (32 : UInt8) ∉ y := by
    intro p _ u h1 h2
    split at h1
    · simp only [List.mem_singleton] at h1; subst h1; exact h2
    · simp at h1
  unfold actRest at hy
  rcases List.mem_append.1 hy with h | hy
  · exact one _ _ h (noblank_dec _)
  rcases List.mem_append.1 hy with h | hy
  · exact one _ _ h (noblank_dec _)
  rcases List.mem_append.1 hy with h | hy
  · exact one _ _ h (noblank_dec _)
  rcases List.mem_append.1 hy with h | h
  · exact one _ _ h (noblank_dec _)
  · exact one _ _ h (noblank_q _)
theorem act_words {x y : PAct} (h : actName x.kind.toNat ++ ((actRest x).flatMap fun y => 32 :: y) = actName y.kind.toNat ++ ((actRest y).flatMap fun y => 32 :: y)) : actName x.kind.toNat = actName y.kind.toNat ∧ actRest x = actRest y := by
  rw [← qrow_flat, ← qrow_flat] at h
  have h2 := congrArg (spl 32) h
  have hx : ∀ x : PAct, ∀ z ∈ actName x.kind.toNat :: actRest x, (32 : UInt8) ∉ z := fun x z hz => by
    rcases List.mem_cons.1 hz with rfl | hz
    · exact noblank_name _
    · exact noblank_rest x z hz
  rw [spl_qrow (by simp) (hx x), spl_qrow (by simp) (hx y)] at h2
  injection h2 with h3 h4
  exact ⟨h3, h4⟩
theorem name_inj {a b : Nat} (ha : a < 11) (hb : b < 11) (h : actName a = actName b) : a = b := by
  have : ∀ a b : Fin 11, actName a.val = actName b.val → a = b := by decide +kernel
  have := this ⟨a, ha⟩ ⟨b, hb⟩ h
  injection this
theorem right_kind {x : PAct} (h : x.right = true) : 0 ≤ x.kind ∧ x.kind ≤ 10 := by
  simp only [PAct.right, Bool.and_eq_true] at h
  have h := h.2
  unfold PAct.fit at h
  repeat' split at h
  all_goals first | omega | (exact absurd h (by decide))
theorem text_none {s : ByteArray} (h : s.toList.isEmpty = true) : s = ⟨#[]⟩ := by
  rw [ByteArray.toList_eq] at h
  apply ba_ext
  simpa using h
theorem act_inj {x y : PAct} (ox : x.Ok) (oy : y.Ok) (hx : x.right = true) (hy : y.right = true) (h : actText x = actText y) : x = y := by
  unfold actText at h
  rw [if_pos hx, if_pos hy] at h
  obtain ⟨h1, h2⟩ := act_words h
  have kx := right_kind hx
  have ky := right_kind hy
  have hk : x.kind = y.kind := by
    have := name_inj (by omega) (by omega) h1
    omega
  have bx := ox.block.1
  have by' := oy.block.1
  have nx := ox.new.1
  have ny := oy.new.1
  have dx := ox.old.1
  have dy := oy.old.1
  obtain ⟨k, b, c, o, n, t⟩ := x
  obtain ⟨k', b', c', o', n', t'⟩ := y
  simp only at hk kx ky bx by' nx ny dx dy
  subst hk
  clear h h1 ox oy ky
  simp only [PAct.right, Bool.and_eq_true, decide_eq_true_eq] at hx hy
  obtain ⟨⟨cx, _⟩, fx⟩ := hx
  obtain ⟨⟨cy, _⟩, fy⟩ := hy
  have hk : k = 0 ∨ k = 1 ∨ k = 2 ∨ k = 3 ∨ k = 4 ∨ k = 5 ∨ k = 6 ∨ k = 7 ∨ k = 8 ∨ k = 9 ∨ k = 10 := by omega
  simp only [PAct.fit] at fx fy
  simp only [actRest] at h2
  have di : ∀ a a' : Int, 0 ≤ a → 0 ≤ a' → decDigits a.toNat = decDigits a'.toNat → a = a' := fun a a' h1 h2 h3 => by have := dec_inj h3; omega
  have dq : qprint t.data.toList = qprint t'.data.toList → t = t' := fun h => ba_ext (qprint_inj h)
  have te : ∀ s : ByteArray, s.toList = [] → s = ⟨#[]⟩ := fun s h => text_none (by rw [h]; rfl)
  rcases hk with rfl | rfl | rfl | rfl | rfl | rfl | rfl | rfl | rfl | rfl | rfl <;> simp at fx fy h2
  all_goals
    have eb : b = b' := by first | exact di _ _ bx by' h2 | exact di _ _ bx by' h2.1 | omega
    have ec : c = c' := by first | exact di _ _ cx cy h2.1 | exact di _ _ cx cy h2.2 | exact di _ _ cx cy h2.2.1 | omega
    have eo : o = o' := by first | exact di _ _ dx dy h2.2.2.1 | omega
    have en : n = n' := by first | exact di _ _ nx ny h2.2.2 | exact di _ _ nx ny h2.2.2.2 | omega
    have et : t = t' := by first | exact dq h2.2 | exact (te t fx).trans (te t' fy).symm | exact (te t fx.2).trans (te t' fy.2).symm
    subst eb ec eo en et
    rfl
end Go.Proofs.YtmifgjkikbgmiaaDoor
