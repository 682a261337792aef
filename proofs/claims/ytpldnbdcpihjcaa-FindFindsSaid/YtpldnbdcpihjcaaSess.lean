/-
  A heap that the call itself has made, from step to step. No condition.
-/
import Derived.Test.YtpldnbdcpihjcaaHeap6
namespace Go.Proofs.Ytpldnbdcpihjcaa
set_option linter.unusedVariables false
open Go.ChangeShapes Go.WideShapes Go.ChangeAt Go.RowKit
open Go.ChangeMaps (setBlock)

/-- A heap S of the call's own, at hb; of what was there in w0 nothing has turned. -/
def Sess (w0 : World) (hb : Nat) (S : PHeap) (w : World) : Prop := ∃ F, HeapIn w hb S F ∧ (∀ k, F k → w0.heap.size ≤ k) ∧ Below w0.heap.size w0 w
section
variable {w0 w w' : World} {hb : Nat} {S S' : PHeap} {f : FuncId} {args : Array Value} {v : Value}
theorem Sess.below (s : Sess w0 hb S w) : Below w0.heap.size w0 w := by
  obtain ⟨_, _, _, h⟩ := s
  exact h
theorem Sess.of (s : Sess w0 hb S w) (c : ∀ F, HeapIn w hb S F → Calls Try.prog f args w fun e w' => e = .returned v ∧ Turned F hb S' w w') : Calls Try.prog f args w fun e w' => e = .returned v ∧ Sess w0 hb S' w' := by
  obtain ⟨F, h, hF, hb0⟩ := s
  refine (c F h).mono fun e w' ⟨he, t⟩ => ⟨he, _, t.1, fun k hk => ?_, hb0.trans (t.2.below hF hb0.size)⟩
  rcases hk with h1 | h1
  · exact hF k h1
  · exact Nat.le_trans hb0.size h1.1
theorem Sess.keep (s : Sess w0 hb S w) (hb1 : Below w.heap.size w w') : Sess w0 hb S w' := by
  obtain ⟨F, h, hF, hb0⟩ := s
  exact ⟨F, h.below hb1, hF, Below.next_ hb0 hb1⟩
theorem Sess.alloc (s : Sess w0 hb S w) (o : Obj) : Sess w0 hb S (w.alloc o) := s.keep (Below.more_ (Below.refl _ _) o)
theorem Sess.drew (s : Sess w0 hb S w) : Sess w0 hb S w.drew := s.keep (Below.refl _ _).drew
theorem Sess.still (s : Sess w0 hb S w) (c : ∀ F, HeapIn w hb S F → Calls Try.prog f args w fun e w' => e = .returned v ∧ Below w.heap.size w w') : Calls Try.prog f args w fun e w' => e = .returned v ∧ Sess w0 hb S w' := by
  have h := s
  obtain ⟨F, h, hF, hb0⟩ := h
  exact (c F h).mono fun e w' ⟨he, hb1⟩ => ⟨he, s.keep hb1⟩
theorem Sess.same (s : Sess w0 hb S w) (c : ∀ F, HeapIn w hb S F → Calls Try.prog f args w fun e w' => e = .returned v ∧ w = w') : Calls Try.prog f args w fun e w' => e = .returned v ∧ w = w' := by
  obtain ⟨F, h, hF, hb0⟩ := s
  exact c F h
end
/-- A new heap. -/
theorem new_sess (w : World) : Calls Try.prog 64 #[] w fun e w' => ∃ hb, e = .returned (.pointer (some ⟨hb, 0, none⟩)) ∧ Sess w hb ⟨[], 0, false, 0⟩ w' :=
  (new_any w).mono fun e w' ⟨hb, he, h1, h2, h3, _⟩ => ⟨hb, he, _, h2, fun k hk => by
    rcases hk with h | h
    · exact h.elim
    · exact h.1, h3⟩
theorem make_sess {w0 w : World} {hb : Nat} {S : PHeap} (s : Sess w0 hb S w) (n : Nat) (hn : n ≤ 256) (t : ByteArray) (hl : S.last < 9223372036854775807) :
    Calls Try.prog 25 #[.pointer (some ⟨hb, 0, none⟩), .int .i64 n, .string t] w fun e w' => e = .returned (.int .u64 (S.last + 1)) ∧ ∃ r, Sess w0 hb { S with blocks := S.blocks ++ [⟨S.last + 1, r, List.replicate n 0, t⟩], last := S.last + 1 } w' := by
  obtain ⟨F, h, hF, hb0⟩ := s
  refine (make_any h n hn t hl).mono fun e w' ⟨he, r, t⟩ => ⟨he, r, _, t.1, fun k hk => ?_, hb0.trans (t.2.below hF hb0.size)⟩
  rcases hk with h1 | h1
  · exact hF k h1
  · exact Nat.le_trans hb0.size h1.1
end Go.Proofs.Ytpldnbdcpihjcaa
