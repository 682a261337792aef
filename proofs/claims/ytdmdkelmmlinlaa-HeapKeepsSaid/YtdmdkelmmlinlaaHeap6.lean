/-
  The heap's methods on no heap; Make of too many cells; Copy and Blocks of a heap without a block. No condition.
-/
import Derived.Test.YtdmdkelmmlinlaaHeap5
namespace Go.Proofs.Ytdmdkelmmlinlaa
set_option linter.unusedVariables false
open Go.ChangeShapes Go.WideShapes Go.ChangeAt Go.RowKit
open Go.ChangeMaps (setBlock)

theorem block_nil (b : Int) (w : World) : Calls Try.prog 44 #[.pointer none, .int .u64 b] w fun e w' => e = .returned (.tuple #[.agg #[.slice none 0 0, .string ByteArray.empty], .int .i64 16]) ∧ Below w.heap.size w w' := by
  go_enter Try.func44, Try.ntmps44
  go_wp2
  refine bodyPost_ret (v := .tuple #[.agg #[.slice none 0 0, .string ByteArray.empty], .int .i64 16]) (by simp [results, Try.results44, go_sem]; rfl) rfl ⟨rfl, ?_⟩
  (repeat first | exact Below.refl _ _ | assumption | refine Below.drew ?_ | refine below_drewN ?_ _ | refine Below.more_ ?_ _ | refine Below.setCell ?_ (by first | exact Nat.le_refl _ | (simp; done) | (simp; omega)) _)
theorem cell_nil (b i : Int) (w : World) : Calls Try.prog 43 #[.pointer none, .int .u64 b, .int .i64 i] w fun e w' => e = .returned (.tuple #[.pointer none, .int .i64 16]) ∧ Below w.heap.size w w' := by
  go_enter Try.func43, Try.ntmps43
  go_wp2_with fail
  refine (block_nil b _).mono ?_; rintro e w1 ⟨rfl, hb1⟩
  go_wp2_with fail
  go_ret2
  exact ⟨rfl, Below.more_ hb1 _⟩
theorem bump_nil (b i v : Int) (w : World) : Calls Try.prog 22 #[.pointer none, .int .u64 b, .int .i64 i, .int .u64 v] w fun e w' => e = .returned (.tuple #[.int .u64 0, .int .i64 16]) ∧ Below w.heap.size w w' := by
  go_enter Try.func22, Try.ntmps22
  go_wp2_with fail
  refine (cell_nil b i _).mono ?_; rintro e w1 ⟨rfl, hb1⟩
  go_wp2_with fail
  go_ret2
  exact ⟨rfl, hb1⟩
theorem load_nil (b i : Int) (w : World) : Calls Try.prog 23 #[.pointer none, .int .u64 b, .int .i64 i] w fun e w' => e = .returned (.tuple #[.int .u64 0, .int .i64 16]) ∧ Below w.heap.size w w' := by
  go_enter Try.func23, Try.ntmps23
  go_wp2_with fail
  refine (bump_nil b i 0 _).mono ?_; rintro e w1 ⟨rfl, hb1⟩
  go_wp2_with fail
  go_ret2
  exact ⟨rfl, hb1⟩
theorem make_nil (n : Int) (s : ByteArray) (w : World) : Calls Try.prog 19 #[.pointer none, .int .i64 n, .string s] w fun e w' => e = .returned (.int .u64 0) ∧ w = w' := by
  go_enter Try.func19, Try.ntmps19
  go_wp2
  go_ret
  exact ⟨rfl, rfl⟩
theorem copy_nil (w : World) : Calls Try.prog 15 #[.pointer none] w fun e w' => e = .returned (.pointer none) ∧ w = w' := by
  go_enter Try.func15, Try.ntmps15
  go_wp2
  go_ret
  exact ⟨rfl, rfl⟩
theorem lock_nil (w : World) : Calls Try.prog 12 #[.pointer none] w fun e w' => e = .returned (.bool false) ∧ w = w' := by
  go_enter Try.func12, Try.ntmps12
  go_wp2
  go_ret
  exact ⟨rfl, rfl⟩
theorem make_bad {w : World} (hb : Nat) (n : Int) (hn : n < 0 ∨ 256 < n) (s : ByteArray) :
    Calls Try.prog 19 #[.pointer (some ⟨hb, 0, none⟩), .int .i64 n, .string s] w fun e w' => e = .returned (.int .u64 0) ∧ w = w' := by
  by_cases h0 : n < 0
  · clear hn
    go_enter Try.func19, Try.ntmps19
    go_wp2
    go_ret
    exact ⟨rfl, rfl⟩
  · have h1 : 256 < n := by omega
    clear hn
    go_enter Try.func19, Try.ntmps19
    go_wp2
    go_ret
    exact ⟨rfl, rfl⟩

set_option maxRecDepth 100000 in
theorem len0 (w : World) : Calls Try.prog 61 #[.int .u64 0] w fun e w' => e = .returned (.int .i64 0) ∧ w = w' := by
  go_enter Try.func61, Try.ntmps61
  go_wp2
  go_ret
  exact ⟨by kernel_rfl, rfl⟩
theorem insertion0 (w : World) : Calls Try.prog 69 #[.slice none 0 0, .int .i64 0, .int .i64 0] w fun e w' => e = .returned (.tuple #[]) ∧ w = w' := by
  go_enter Try.func69, Try.ntmps69
  go_wp2_with fail
  refine wp_loop_rounds 1 ?_; rw [rounds_succ]
  go_wp2_with fail
  go_end0
  exact ⟨rfl, rfl⟩
theorem pdq0 (w : World) : Calls Try.prog 60 #[.slice none 0 0, .int .i64 0, .int .i64 0, .int .i64 0] w fun e w' => e = .returned (.tuple #[]) ∧ w = w' := by
  go_enter Try.func60, Try.ntmps60
  go_wp2_with fail
  refine wp_loop_rounds 1 ?_; rw [rounds_succ]
  go_wp2_with fail
  refine (insertion0 _).mono ?_; rintro e w1 ⟨rfl, rfl⟩
  go_wp2_with fail
  refine bodyPost_ret (results_none rfl _ _ _) rfl ⟨rfl, rfl⟩
theorem sort_nil (w : World) : Calls Try.prog 42 #[.slice none 0 0] w fun e w' => e = .returned (.tuple #[]) ∧ w = w' := by
  go_enter Try.func42, Try.ntmps42
  go_wp2_with fail
  refine (len0 _).mono ?_; rintro e w1 ⟨rfl, rfl⟩
  go_wp2_with fail
  refine (pdq0 _).mono ?_; rintro e w1 ⟨rfl, rfl⟩
  go_wp2_with fail
  go_end0
  exact ⟨rfl, rfl⟩

theorem run_next_none {P : Program} (w : World) (ty : TypeId) (r m clock : Nat) (hr : w.heap[r]? = some (.mapIter (some m) clock #[] clock)) (hb : w.heap[m]? = some (.map #[] clock)) : (Instr.next (.pointer (some ⟨r, 0, none⟩)) false ty).run P w = .ok (.tuple #[.bool false]) w := by
  rcases run_next_at (P := P) w ty r m clock clock #[] #[] clock hr hb (by simp) (Nat.le_refl _) with ⟨_, h⟩ | ⟨e, he, _⟩
  · exact h
  · simp [leftOf] at he

theorem HeapIn.range0 {w : World} {hb : Nat} {S : PHeap} {F : Nat → Prop} (h : HeapIn w hb S F) (hS : S.blocks = []) : ∃ mo it, Blk w hb 58 (heapCells mo S) ∧ ∀ X : World, (∀ k, F k → X.heap[k]? = w.heap[k]?) →
    (Instr.range 56 (.map mo)).run Try.prog X = .ok (.pointer (some ⟨X.heap.size, 0, none⟩)) (X.alloc it) ∧ ∀ ty, (Instr.next (.pointer (some ⟨X.heap.size, 0, none⟩)) false ty).run Try.prog (X.alloc it) = .ok (.tuple #[.bool false]) (X.alloc it) := by
  obtain ⟨mo, hm1, hm2⟩ := h.m
  rcases hm2 with ⟨rfl, h1, h2⟩ | ⟨m, rfl, h2, h3⟩
  · exact ⟨none, _, hm1, fun X _ => ⟨run_range_nilMap X _ _ _ Try.underlying56, fun ty => run_next_nilMap X ty 0 0 #[]⟩⟩
  · have hlt := h3.lt
    obtain ⟨es, cl, e1, e2, e3⟩ := h3.some_
    have he : es = #[] := by
      have := congrArg List.length e2
      unfold PHeap.ents at this
      rw [hS] at this
      simpa [kvs, kvOf] using this
    subst he
    refine ⟨some m, .mapIter (some m) cl #[] cl, hm1, fun X hX => ?_⟩
    have e1' := (hX m h2).trans e1
    exact ⟨run_range_map X _ _ _ m #[] cl Try.underlying56 e1', fun ty => run_next_none _ ty X.heap.size m cl (MapKept.heap_alloc X _).1 ((Below.heap_alloc _ _ _ (Array.getElem?_eq_some_iff.1 e1').1).trans e1')⟩
set_option maxRecDepth 100000 in
set_option maxHeartbeats 1000000 in
theorem copy_empty {w : World} {hb : Nat} {S : PHeap} {F : Nat → Prop} (h : HeapIn w hb S F) (hS : S.blocks = []) :
    Calls Try.prog 15 #[.pointer (some ⟨hb, 0, none⟩)] w fun e w' => ∃ c, e = .returned (.pointer (some ⟨c, 0, none⟩)) ∧ w.heap.size ≤ c ∧ HeapIn w' c S (nw (fun _ => False) w w') ∧ Below w.heap.size w w' := by
  obtain ⟨mo, it, hm1, hrg⟩ := h.range0 hS
  have hlt := h.own _ h.hF
  go_enter Try.func15, Try.ntmps15
  go_wp2_with fail
  refine (new_any _).mono ?_; rintro e w1 ⟨c, rfl, hc1, hn1, hb1, m1, hn2⟩
  have hclt := hn1.own _ hn1.hF
  have hcne : hb ≠ c := by omega
  have hB1 := hm1.below hb1 hlt
  have a0 : w1.cell? ⟨hb, 0, none⟩ = some (.map mo) := hB1.cell 0
  have a1 : w1.cell? ⟨hb, 1, none⟩ = some (.int .u64 S.last) := hB1.cell 1
  have a2 : w1.cell? ⟨hb, 2, none⟩ = some (.bool S.locked) := hB1.cell 2
  have a3 : w1.cell? ⟨hb, 3, none⟩ = some (.int .i64 S.faults) := hB1.cell 3
  have b1 : w1.cell? ⟨c, 1, none⟩ = some (.int .u64 0) := hn2.cell 1
  have b2 : w1.cell? ⟨c, 2, none⟩ = some (.bool false) := hn2.cell 2
  have b3 : w1.cell? ⟨c, 3, none⟩ = some (.int .i64 0) := hn2.cell 3
  have g1 := hn2.frozen 1
  have g2 := hn2.frozen 2
  have g3 := hn2.frozen 3
  go_wp2_with fail
  go_region
  obtain ⟨r1, r2⟩ := hrg ((((w1.setCell ⟨c, 1, none⟩ (.int .u64 S.last)).setCell ⟨c, 2, none⟩ (.bool S.locked)).setCell ⟨c, 3, none⟩ (.int .i64 S.faults)).drew) (fun k hk => by
    have h1 := h.own k hk
    have h2 : k ≠ c := by omega
    exact ((Below.heap_setCell _ _ _ _ h2).trans ((Below.heap_setCell _ _ _ _ h2).trans (Below.heap_setCell _ _ _ _ h2))).trans (hb1.block k h1))
  have e0 : ((((w1.setCell ⟨c, 1, none⟩ (.int .u64 S.last)).setCell ⟨c, 2, none⟩ (.bool S.locked)).setCell ⟨c, 3, none⟩ (.int .i64 S.faults)).drew).heap.size = w1.heap.size := by
    show (((w1.setCell ⟨c, 1, none⟩ (.int .u64 S.last)).setCell ⟨c, 2, none⟩ (.bool S.locked)).setCell ⟨c, 3, none⟩ (.int .i64 S.faults)).heap.size = _
    rw [size_setCell, size_setCell, size_setCell]
  rw [e0] at r1 r2
  rw [show ((((w1.setCell ⟨c, 1, none⟩ (.int .u64 S.last)).setCell ⟨c, 2, none⟩ (.bool S.locked)).setCell ⟨c, 3, none⟩ (.int .i64 S.faults)).drew).alloc it = ((((w1.setCell ⟨c, 1, none⟩ (.int .u64 S.last)).setCell ⟨c, 2, none⟩ (.bool S.locked)).setCell ⟨c, 3, none⟩ (.int .i64 S.faults)).alloc it).drew from rfl] at r1 r2
  clear e0
  go_wp2_with fail
  refine wp_loop_rounds 1 ?_; rw [rounds_succ]
  go_wp2_with fail
  go_ret
  have hc : Chg (fun k => k = c) w1 (((((w1.setCell ⟨c, 1, none⟩ (.int .u64 S.last)).setCell ⟨c, 2, none⟩ (.bool S.locked)).setCell ⟨c, 3, none⟩ (.int .i64 S.faults)).alloc it).drew) := by
    (repeat first | exact Chg.refl _ _ | assumption | refine Chg.drew ?_ | refine Chg.drewN ?_ _ | refine Chg.alloc ?_ _ | refine Chg.setCell ?_ (by first | (left; rfl) | (left; assumption) | (right; exact Nat.le_refl _) | (right; simp; done) | (right; simp; omega)) _ | refine Chg.setBlock ?_ (by first | (left; rfl) | (left; assumption) | (right; exact Nat.le_refl _) | (right; simp; done) | (right; simp; omega)) _)
  have hB : Blk (((((w1.setCell ⟨c, 1, none⟩ (.int .u64 S.last)).setCell ⟨c, 2, none⟩ (.bool S.locked)).setCell ⟨c, 3, none⟩ (.int .i64 S.faults)).alloc it).drew) c 58 (heapCells (some m1) S) := by
    exact (Blk.drew (Blk.alloc (Blk.set_ (Blk.set_ (Blk.set_ hn2 1 (.int .u64 S.last)) 2 (.bool S.locked)) 3 (.int .i64 S.faults)) it)).eq_cs rfl
  obtain ⟨mo', hn3, hn4⟩ := hn1.m
  have e : mo' = some m1 := by
    unfold Blk at hn2 hn3
    rw [hn3] at hn2
    simp only [heapCells, Option.some.injEq, Obj.cells.injEq, Array.mk.injEq, List.cons.injEq, Value.map.injEq] at hn2
    exact hn2.1.1
  subst e
  rcases hn4 with ⟨he, _⟩ | ⟨m, he, hm1, hm2⟩
  · cases he
  · cases he
    refine ⟨c, rfl, hc1, ⟨fun k hk => ?_, nw_more hc.size c hn1.hF, ⟨some m1, hB, .inr ⟨m1, rfl, nw_more hc.size _ hm1, ?_⟩⟩, (by rw [hS]; simp), (by rw [hS]; exact List.nodup_nil), (by rw [hS]; exact List.nodup_nil), (by rw [hS]; simp), h.last0, h.faults0⟩, ?_⟩
    · rcases hk with h1 | h1
      · exact h1.elim
      · exact h1.2
    · have e2 : S.ents = [] := by unfold PHeap.ents; rw [hS]; rfl
      rw [e2]
      exact hm2.keep (hc.block _ hm2.lt (hm2.ne_blk hn2))
    · exact hb1.trans (Chg.below hc (fun i hi => by omega) hb1.size)

theorem blocks_empty {w : World} {hb : Nat} {S : PHeap} {F : Nat → Prop} (h : HeapIn w hb S F) (hS : S.blocks = []) :
    Calls Try.prog 17 #[.pointer (some ⟨hb, 0, none⟩)] w fun e w' => e = .returned (.slice none 0 0) ∧ Below w.heap.size w w' := by
  obtain ⟨mo, it, hm1, hrg⟩ := h.range0 hS
  have a0 : w.cell? ⟨hb, 0, none⟩ = some (.map mo) := hm1.cell 0
  obtain ⟨r1, r2⟩ := hrg w (fun _ _ => rfl)
  clear hrg
  go_enter Try.func17, Try.ntmps17
  go_wp2_with fail
  refine wp_loop_rounds 1 ?_; rw [rounds_succ]
  go_wp2_with fail
  refine (sort_nil _).mono ?_; rintro e w1 ⟨rfl, rfl⟩
  go_wp2_with fail
  go_ret
  exact ⟨rfl, Below.more_ (Below.refl _ _) _⟩
end Go.Proofs.Ytdmdkelmmlinlaa
