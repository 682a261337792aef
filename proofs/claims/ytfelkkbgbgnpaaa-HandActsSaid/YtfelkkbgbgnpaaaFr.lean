/-
  Frames, slot by slot. No condition.
-/
import Derived.Test.YtfelkkbgbgnpaaaBase
namespace Go.Proofs.Ytfelkkbgbgnpaaa
set_option linter.unusedVariables false
theorem act_eq {t t' : Array Value} {d : List Deferred} (h : t = t') : (Act.mk t d) = Act.mk t' d := by rw [h]
theorem slots_eq {l m : List Value} (h : l = m) : List.toArray l = List.toArray m := by rw [h]
theorem cons_eq {a b : Value} {l m : List Value} (h : a = b) (k : l = m) : a :: l = b :: m := by rw [h, k]
theorem nx {B : Nat} {a b c : World} (h : RowKit.Below B a b) (hB : B ≤ a.heap.size) (k : RowKit.Below b.heap.size b c) : RowKit.Below B a c := h.trans (k.mono (Nat.le_trans hB h.size))
end Go.Proofs.Ytfelkkbgbgnpaaa
