/-
  How long a right operation's bytes are (layer 9). No condition.
-/
import Derived.Test.YtpmnppjiipbonaaDoorUni9
namespace Go.Proofs.YtpmnppjiipbonaaDoor
set_option linter.unusedVariables false
theorem oflat_le {α : Type} (f : α → List UInt8) (m : Nat) : ∀ l : List α, (∀ x ∈ l, (f x).length ≤ m) → (l.flatMap f).length ≤ l.length * m
  | [], _ => by simp
  | x :: l, h => by
    have h1 := h x (by simp)
    have h2 := oflat_le f m l (fun y hy => h y (by simp [hy]))
    rw [List.flatMap_cons, List.length_append, List.length_cons, Nat.succ_mul]
    omega
theorem gBytes_len {g : OGuard} (h : gRight g = true) : (gBytes g).length ≤ 200 := by
  simp only [gRight, decide_eq_true_eq] at h
  have a1 := sput_ten (n := g.kind.toNat) (by omega)
  have a2 := sput_ten (n := g.key.size) (by omega)
  have a3 := sput_ten (n := g.value.size) (by omega)
  unfold gBytes
  split <;> simp only [List.length_append, stxt_len, List.length_nil] <;> omega
theorem sBytes_len {x : OStep} (h : sRight x = true) (hf : sFit x) : (sBytes x).length ≤ 200 := by
  simp only [sRight, decide_eq_true_eq] at h
  obtain ⟨f1, f2⟩ := hf
  have a1 := sput_ten (n := x.kind.toNat) (by omega)
  have a2 := sput_ten (n := x.key.size) (by omega)
  have a3 := sput_ten (n := x.value.size) (by omega)
  have a4 := sput_ten (n := x.old.size) (by omega)
  have a5 := sput_ten (n := zz x.n) (by unfold zz; split <;> omega)
  unfold sBytes
  split
  · simp only [List.length_append, stxt_len]; omega
  · split
    · simp only [List.length_append, stxt_len]; omega
    · split
      · simp only [List.length_append, stxt_len]; omega
      · simp only [List.length_append, stxt_len, List.length_nil]; omega
theorem oBytes_len {o : OOp} (ho : oRight o = true) (hf : ∀ x ∈ o.steps, sFit x) : (oBytes o).length ≤ 2000 := by
  obtain ⟨gs, ss⟩ := o
  simp only [oRight, Bool.and_eq_true, decide_eq_true_eq, List.all_eq_true] at ho
  obtain ⟨⟨⟨⟨g1, g2⟩, g3⟩, g4⟩, g5⟩ := ho
  have a1 := sput_ten (n := gs.length) (by omega)
  have a2 := sput_ten (n := ss.length) (by omega)
  have b1 := oflat_le gBytes 200 gs (fun x hx => gBytes_len (g4 x hx))
  have b2 := oflat_le sBytes 200 ss (fun x hx => sBytes_len (g5 x hx) (hf x hx))
  unfold oBytes
  simp only [List.length_append]
  omega
end Go.Proofs.YtpmnppjiipbonaaDoor
