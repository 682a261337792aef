/-
  The heap's methods on no heap; Make of too many cells; Copy and Blocks of a heap without a block. No condition.
-/
import Derived.Test.YtpldnbdcpihjcaaHeap5
namespace Go.Proofs.Ytpldnbdcpihjcaa
set_option linter.unusedVariables false
open Go.ChangeShapes Go.WideShapes Go.ChangeAt Go.RowKit
open Go.ChangeMaps (setBlock)

theorem block_nil (b : Int) (w : World) : Calls Try.prog 99 #[.pointer none, .int .u64 b] w fun e w' => e = .returned (.tuple #[.agg #[.slice none 0 0, .string ByteArray.empty], .int .i64 16]) ∧ Below w.heap.size w w' := by
  go_enter Try.func99, Try.ntmps99
  go_wp2
  refine bodyPost_ret (v := .tuple #[.agg #[.slice none 0 0, .string ByteArray.empty], .int .i64 16]) (by simp [results, Try.results99, go_sem]; rfl) rfl ⟨rfl, ?_⟩
  (repeat first | exact Below.refl _ _ | assumption | refine Below.drew ?_ | refine below_drewN ?_ _ | refine Below.more_ ?_ _ | refine Below.setCell ?_ (by first | exact Nat.le_refl _ | (simp; done) | (simp; omega)) _)
theorem cell_nil (b i : Int) (w : World) : Calls Try.prog 67 #[.pointer none, .int .u64 b, .int .i64 i] w fun e w' => e = .returned (.tuple #[.pointer none, .int .i64 16]) ∧ Below w.heap.size w w' := by
  go_enter Try.func67, Try.ntmps67
  go_wp2_with fail
  refine (block_nil b _).mono ?_; rintro e w1 ⟨rfl, hb1⟩
  go_wp2_with fail
  go_ret2
  exact ⟨rfl, Below.more_ hb1 _⟩
theorem bump_nil (b i v : Int) (w : World) : Calls Try.prog 79 #[.pointer none, .int .u64 b, .int .i64 i, .int .u64 v] w fun e w' => e = .returned (.tuple #[.int .u64 0, .int .i64 16]) ∧ Below w.heap.size w w' := by
  go_enter Try.func79, Try.ntmps79
  go_wp2_with fail
  refine (cell_nil b i _).mono ?_; rintro e w1 ⟨rfl, hb1⟩
  go_wp2_with fail
  go_ret2
  exact ⟨rfl, hb1⟩
theorem load_nil (b i : Int) (w : World) : Calls Try.prog 39 #[.pointer none, .int .u64 b, .int .i64 i] w fun e w' => e = .returned (.tuple #[.int .u64 0, .int .i64 16]) ∧ Below w.heap.size w w' := by
  go_enter Try.func39, Try.ntmps39
  go_wp2_with fail
  refine (bump_nil b i 0 _).mono ?_; rintro e w1 ⟨rfl, hb1⟩
  go_wp2_with fail
  go_ret2
  exact ⟨rfl, hb1⟩
theorem make_nil (n : Int) (s : ByteArray) (w : World) : Calls Try.prog 25 #[.pointer none, .int .i64 n, .string s] w fun e w' => e = .returned (.int .u64 0) ∧ w = w' := by
  go_enter Try.func25, Try.ntmps25
  go_wp2
  go_ret
  exact ⟨rfl, rfl⟩
theorem lock_nil (w : World) : Calls Try.prog 82 #[.pointer none] w fun e w' => e = .returned (.bool false) ∧ w = w' := by
  go_enter Try.func82, Try.ntmps82
  go_wp2
  go_ret
  exact ⟨rfl, rfl⟩
theorem make_bad {w : World} (hb : Nat) (n : Int) (hn : n < 0 ∨ 256 < n) (s : ByteArray) :
    Calls Try.prog 25 #[.pointer (some ⟨hb, 0, none⟩), .int .i64 n, .string s] w fun e w' => e = .returned (.int .u64 0) ∧ w = w' := by
  by_cases h0 : n < 0
  · clear hn
    go_enter Try.func25, Try.ntmps25
    go_wp2
    go_ret
    exact ⟨rfl, rfl⟩
  · have h1 : 256 < n := by omega
    clear hn
    go_enter Try.func25, Try.ntmps25
    go_wp2
    go_ret
    exact ⟨rfl, rfl⟩

theorem run_next_none {P : Program} (w : World) (ty : TypeId) (r m clock : Nat) (hr : w.heap[r]? = some (.mapIter (some m) clock #[] clock)) (hb : w.heap[m]? = some (.map #[] clock)) : (Instr.next (.pointer (some ⟨r, 0, none⟩)) false ty).run P w = .ok (.tuple #[.bool false]) w := by
  rcases run_next_at (P := P) w ty r m clock clock #[] #[] clock hr hb (by simp) (Nat.le_refl _) with ⟨_, h⟩ | ⟨e, he, _⟩
  · exact h
  · simp [leftOf] at he

theorem HeapIn.range0 {w : World} {hb : Nat} {S : PHeap} {F : Nat → Prop} (h : HeapIn w hb S F) (hS : S.blocks = []) : ∃ mo it, Blk w hb 130 (heapCells mo S) ∧ ∀ X : World, (∀ k, F k → X.heap[k]? = w.heap[k]?) →
    (Instr.range 128 (.map mo)).run Try.prog X = .ok (.pointer (some ⟨X.heap.size, 0, none⟩)) (X.alloc it) ∧ ∀ ty, (Instr.next (.pointer (some ⟨X.heap.size, 0, none⟩)) false ty).run Try.prog (X.alloc it) = .ok (.tuple #[.bool false]) (X.alloc it) := by
  obtain ⟨mo, hm1, hm2⟩ := h.m
  rcases hm2 with ⟨rfl, h1, h2⟩ | ⟨m, rfl, h2, h3⟩
  · exact ⟨none, _, hm1, fun X _ => ⟨run_range_nilMap X _ _ _ Try.underlying128, fun ty => run_next_nilMap X ty 0 0 #[]⟩⟩
  · have hlt := h3.lt
    obtain ⟨es, cl, e1, e2, e3⟩ := h3.some_
    have he : es = #[] := by
      have := congrArg List.length e2
      unfold PHeap.ents at this
      rw [hS] at this
      simpa [kvs, kvOf] using this
    subst he
    refine ⟨some m, .mapIter (some m) cl #[] cl, hm1, fun X hX => ?_⟩
    have e1' := (hX m h2).trans e1
    exact ⟨run_range_map X _ _ _ m #[] cl Try.underlying128 e1', fun ty => run_next_none _ ty X.heap.size m cl (MapKept.heap_alloc X _).1 ((Below.heap_alloc _ _ _ (Array.getElem?_eq_some_iff.1 e1').1).trans e1')⟩
end Go.Proofs.Ytpldnbdcpihjcaa
