/-
  Package quote and the document's answer: which bytes stand for themselves; digits; a text's word. No condition.
-/
import Derived.Test.YtpkkjoiglemlgaaGreatDoorQuoteP
import Derived.Lib.Bytealg
import Derived.Test.YtpkkjoiglemlgaaGreatDoorPlaces
import Derived.Test.YtpkkjoiglemlgaaGreatDoorBuilder
namespace Go.Proofs.YtpkkjoiglemlgaaGreatDoor
set_option linter.unusedVariables false
open Go.RowKit Go.Extern.Stop Go.Stop Go.Extern Go.ChangeShapes

theorem qplain_no {c : Nat} (h : c < 46 ∨ (59 ≤ c ∧ c ≤ 64) ∨ (91 ≤ c ∧ c ≤ 94) ∨ c = 96 ∨ 123 ≤ c) : qplain c = false := decide_eq_false (by omega)
theorem qplain_yes {c : Nat} (h : (46 ≤ c ∧ c ≤ 58) ∨ (65 ≤ c ∧ c ≤ 90) ∨ c = 95 ∨ (97 ≤ c ∧ c ≤ 122)) : qplain c = true := decide_eq_true (by omega)
def allL : List UInt8 := [97, 98, 99, 100, 101, 102, 103, 104, 105, 106, 107, 108, 109, 110, 111, 112, 113, 114, 115, 116, 117, 118, 119, 120, 121, 122, 65, 66, 67, 68, 69, 70, 71, 72, 73, 74, 75, 76, 77, 78, 79, 80, 81, 82, 83, 84, 85, 86, 87, 88, 89, 90, 48, 49, 50, 51, 52, 53, 54, 55, 56, 57, 46, 58, 47, 95]
theorem all_yes {k : Nat} (h : k < 66) : qplain (lf allL k) = true := by
  have : ∀ k : Fin 66, qplain (lf allL k.val) = true := by decide +kernel
  exact this ⟨k, h⟩
theorem all_no {c : Nat} (h : ∀ k, k < 66 → lf allL k ≠ c) : qplain c = false := by
  by_cases hc : c < 256
  · have : ∀ c : Fin 256, qplain c.val = true → ∃ k : Fin 66, lf allL k.val = c.val := by decide +kernel
    cases hp : qplain c
    · rfl
    · obtain ⟨k, hk⟩ := this ⟨c, hc⟩ hp
      exact absurd hk (h k.val k.isLt)
  · exact qplain_no (by omega)
theorem at_lf {A : ByteArray} {L : List UInt8} (h : A.data.toList = L) {k : Nat} (hk : k < A.size) : (A[k]'hk).toNat = lf L k := by
  subst h
  rw [lf_at (by rw [size_list_]; exact hk)]
  rfl
/-- A sign's digit; -1: it is none. -/
def qvi (c : Nat) : Int := match qval c with
  | some x => x
  | none => -1
def signL : List UInt8 := [48, 49, 50, 51, 52, 53, 54, 55, 56, 57, 97, 98, 99, 100, 101, 102]
theorem sign_at {k : Nat} (h : k < 16) : lf signL k = (qdig k).toNat := by
  have : ∀ k : Fin 16, lf signL k.val = (qdig k.val).toNat := by decide +kernel
  exact this ⟨k, h⟩
theorem sign_yes {k c : Nat} (h : k < 16) (hc : lf signL k = c) : qvi c = k := by
  rw [← hc, sign_at h, qvi, qval_qdig h]
theorem sign_no {c : Nat} (h : ∀ k, k < 16 → lf signL k ≠ c) : qvi c = -1 := by
  unfold qvi
  cases hq : qval c with
  | none => rfl
  | some x =>
    have hc : c < 256 := by
      unfold qval at hq
      split at hq
      · omega
      · split at hq
        · omega
        · cases hq
    obtain ⟨h1, h2⟩ := qdig_qval hc hq
    exact absurd (by rw [sign_at h1, h2]; simp; omega) (h x h1)
theorem signIndex {c : Nat} (h : c < 256) : Lib.indexByte signL c.toUInt8 = qvi c := by
  have : ∀ c : Fin 256, Lib.indexByte signL c.val.toUInt8 = qvi c.val := by decide +kernel
  exact this ⟨c, h⟩
theorem conv_three {W : World} {g : Nat} (b c d : UInt8) (h : Blk W g 5 #[.int .u8 b.toNat, .int .u8 c.toNat, .int .u8 d.toNat]) : (convert 128 9 (.slice (some ⟨g, 0, none⟩) 3 3)).run Tryz.prog W = .ok (.string (bs [b, c, d])) W :=
  run_convert_bytes_back _ 128 9 5 ⟨g, 0, none⟩ 3 [b, c, d] Tryz.underlying128 Tryz.underlying5 Tryz.underlying9 fun j hj => by
    have : j = 0 ∨ j = 1 ∨ j = 2 := by simp at hj; omega
    have hc := h.cell j
    rcases this with rfl | rfl | rfl <;> simpa [Addr.add] using hc
theorem byte_at {s : ByteArray} {k : Nat} (h : k < s.size) : ∃ c, s.data.toList[k]? = some c ∧ ∀ h : k < s.size, (s[k]'h).toNat = c.toNat :=
  ⟨s.data.toList[k]'(by rw [size_list_]; exact h), List.getElem?_eq_getElem _, fun _ => rfl⟩
theorem take_byte {l : List UInt8} {k : Nat} {c : UInt8} (h : l[k]? = some c) : l.take (k + 1) = l.take k ++ [c] := by rw [List.take_add_one, h]; rfl
theorem flat_snoc (l : List UInt8) (c : UInt8) : (l ++ [c]).flatMap qone = l.flatMap qone ++ qone c := by simp
theorem flat_take_len (l : List UInt8) (k : Nat) : ((l.take k).flatMap qone).length ≤ 3 * k := by
  have h1 := flat_len (l.take k)
  have h2 : (l.take k).length ≤ k := by simp; omega
  omega
theorem qprint_flat {l : List UInt8} (h : l ≠ []) : qprint l = l.flatMap qone := if_neg h
theorem qprint_nil : qprint [] = [45] := rfl
theorem list_ne {s : ByteArray} (h : 0 < s.size) : s.data.toList ≠ [] := fun e => by
  have := size_list_ s
  rw [e] at this
  simp at this
  omega
theorem txt_ne_empty {s : ByteArray} (h : 0 < s.size) : ¬ s.toList = [] := fun e => by
  rw [ByteArray.toList_eq] at e
  exact list_ne h e
end Go.Proofs.YtpkkjoiglemlgaaGreatDoor
