/-
  The heap's methods: New, Drop, Lock, Unlock, Locked, Faults, Size. No condition.
-/
import Derived.Test.YtpldnbdcpihjcaaHeap3
namespace Go.Proofs.Ytpldnbdcpihjcaa
set_option linter.unusedVariables false
open Go.ChangeShapes Go.WideShapes Go.ChangeAt Go.RowKit
open Go.ChangeMaps (setBlock)

/-- The heap's own block turns, its map stays: another lock, other faults. -/
theorem HeapIn.headed {w w' : World} {hb : Nat} {S : PHeap} {F : Nat → Prop} {mo : Option Nat} {l : Bool} {f : Int} (h : HeapIn w hb S F) (hm : Blk w hb 130 (heapCells mo S)) (hf : 0 ≤ f) (hc : Chg (fun k => k = hb) w w')
    (hB : Blk w' hb 130 (heapCells mo { S with locked := l, faults := f })) : Turned F hb { S with locked := l, faults := f } w w' := by
  have hk : ∀ k, F k → k ≠ hb → w'.heap[k]? = w.heap[k]? := fun k hk hn => hc.block k (h.own k hk) hn
  obtain ⟨mo', hm1, hm2⟩ := h.m
  have e : mo' = mo := by
    unfold Blk at hm1 hm
    rw [hm] at hm1
    simp only [heapCells, Option.some.injEq, Obj.cells.injEq, Array.mk.injEq, List.cons.injEq, Value.map.injEq] at hm1
    exact hm1.1.1.symm
  subst e
  refine ⟨⟨h.own.nw hc.size, .inl h.hF, ⟨mo', hB, ?_⟩, fun b hb' => ⟨.inl (h.rows b hb').1, (h.rows b hb').2.keep (hk _ (h.rows b hb').1 ?_)⟩, h.apart, h.keys, h.span, h.last0, hf⟩, hc.mono fun i hi => hi ▸ h.hF⟩
  · rcases hm2 with h1 | ⟨m, h1, h2, h3⟩
    · exact .inl h1
    · exact .inr ⟨m, h1, .inl h2, h3.keep (hk _ h2 (h3.ne_blk hm1))⟩
  · exact Blk.ne_ (h.rows b hb').2 hm1 (by decide)

theorem faults_any {w : World} {hb : Nat} {S : PHeap} {F : Nat → Prop} (h : HeapIn w hb S F) :
    Calls Try.prog 26 #[.pointer (some ⟨hb, 0, none⟩)] w fun e w' => e = .returned (.int .i64 S.faults) ∧ w = w' := by
  obtain ⟨mo, hm1, _⟩ := h.m
  have c3 : w.cell? ⟨hb, 3, none⟩ = some (.int .i64 S.faults) := hm1.cell 3
  go_enter Try.func26, Try.ntmps26
  go_wp2_with fail
  go_ret
  exact ⟨rfl, rfl⟩
theorem locked_any {w : World} {hb : Nat} {S : PHeap} {F : Nat → Prop} (h : HeapIn w hb S F) :
    Calls Try.prog 102 #[.pointer (some ⟨hb, 0, none⟩)] w fun e w' => e = .returned (.bool S.locked) ∧ w = w' := by
  obtain ⟨mo, hm1, _⟩ := h.m
  have c2 : w.cell? ⟨hb, 2, none⟩ = some (.bool S.locked) := hm1.cell 2
  go_enter Try.func102, Try.ntmps102
  go_wp2_with fail
  go_ret
  exact ⟨rfl, rfl⟩
theorem lock_free {w : World} {hb : Nat} {S : PHeap} {F : Nat → Prop} (h : HeapIn w hb S F) (hl : S.locked = false) :
    Calls Try.prog 82 #[.pointer (some ⟨hb, 0, none⟩)] w fun e w' => e = .returned (.bool true) ∧ Turned F hb { S with locked := true } w w' := by
  obtain ⟨mo, hm1, _⟩ := h.m
  have c2 : w.cell? ⟨hb, 2, none⟩ = some (.bool false) := by rw [hm1.cell 2]; simp [heapCells, hl]
  have f2 := hm1.frozen 2
  clear hl
  go_enter Try.func82, Try.ntmps82
  go_wp2_with fail
  go_ret
  refine ⟨rfl, h.headed (f := S.faults) hm1 h.faults0 ?_ (Blk.eq_cs (cs := (heapCells mo S).setIfInBounds 2 (.bool true)) ?_ rfl)⟩
  · (repeat first | exact Chg.refl _ _ | assumption | refine Chg.drew ?_ | refine Chg.drewN ?_ _ | refine Chg.alloc ?_ _ | refine Chg.setCell ?_ (by first | (left; rfl) | (left; assumption) | (right; exact Nat.le_refl _) | (right; simp; done) | (right; simp; omega)) _ | refine Chg.setBlock ?_ (by first | (left; rfl) | (left; assumption) | (right; exact Nat.le_refl _) | (right; simp; done) | (right; simp; omega)) _)
  · (repeat first | exact hm1 | refine Blk.drew ?_ | refine Blk.drewN ?_ _ | refine Blk.alloc ?_ _ | refine Blk.set_ ?_ _ _ | refine Blk.far ?_ (by simp; omega) _ | refine Blk.setb ?_ (by omega) _)
theorem lock_taken {w : World} {hb : Nat} {S : PHeap} {F : Nat → Prop} (h : HeapIn w hb S F) (hl : S.locked = true) :
    Calls Try.prog 82 #[.pointer (some ⟨hb, 0, none⟩)] w fun e w' => e = .returned (.bool false) ∧ w = w' := by
  obtain ⟨mo, hm1, _⟩ := h.m
  have c2 : w.cell? ⟨hb, 2, none⟩ = some (.bool true) := by rw [hm1.cell 2]; simp [heapCells, hl]
  clear hl
  go_enter Try.func82, Try.ntmps82
  go_wp2_with fail
  go_ret
  exact ⟨rfl, rfl⟩
theorem unlock_free {w : World} {hb : Nat} {S : PHeap} {F : Nat → Prop} (h : HeapIn w hb S F) (hl : S.locked = false) (hf : S.faults < 9223372036854775807) :
    Calls Try.prog 83 #[.pointer (some ⟨hb, 0, none⟩)] w fun e w' => e = .returned (.bool false) ∧ Turned F hb S.fault w w' := by
  obtain ⟨mo, hm1, _⟩ := h.m
  have c2 : w.cell? ⟨hb, 2, none⟩ = some (.bool false) := by rw [hm1.cell 2]; simp [heapCells, hl]
  have c3 : w.cell? ⟨hb, 3, none⟩ = some (.int .i64 S.faults) := hm1.cell 3
  have f3 := hm1.frozen 3
  have hf0 := h.faults0
  clear hl
  go_enter Try.func83, Try.ntmps83
  go_wp2_with fail
  go_ret
  refine ⟨rfl, h.headed (f := S.faults + 1) (l := S.locked) hm1 (by omega) ?_ (Blk.eq_cs (cs := (heapCells mo S).setIfInBounds 3 (.int .i64 (S.faults + 1))) ?_ rfl)⟩
  · (repeat first | exact Chg.refl _ _ | assumption | refine Chg.drew ?_ | refine Chg.drewN ?_ _ | refine Chg.alloc ?_ _ | refine Chg.setCell ?_ (by first | (left; rfl) | (left; assumption) | (right; exact Nat.le_refl _) | (right; simp; done) | (right; simp; omega)) _ | refine Chg.setBlock ?_ (by first | (left; rfl) | (left; assumption) | (right; exact Nat.le_refl _) | (right; simp; done) | (right; simp; omega)) _)
  · (repeat first | exact hm1 | refine Blk.drew ?_ | refine Blk.drewN ?_ _ | refine Blk.alloc ?_ _ | refine Blk.set_ ?_ _ _ | refine Blk.far ?_ (by simp; omega) _ | refine Blk.setb ?_ (by omega) _)
theorem unlock_taken {w : World} {hb : Nat} {S : PHeap} {F : Nat → Prop} (h : HeapIn w hb S F) (hl : S.locked = true) :
    Calls Try.prog 83 #[.pointer (some ⟨hb, 0, none⟩)] w fun e w' => e = .returned (.bool true) ∧ Turned F hb { S with locked := false } w w' := by
  obtain ⟨mo, hm1, _⟩ := h.m
  have c2 : w.cell? ⟨hb, 2, none⟩ = some (.bool true) := by rw [hm1.cell 2]; simp [heapCells, hl]
  have f2 := hm1.frozen 2
  clear hl
  go_enter Try.func83, Try.ntmps83
  go_wp2_with fail
  go_ret
  refine ⟨rfl, h.headed (f := S.faults) hm1 h.faults0 ?_ (Blk.eq_cs (cs := (heapCells mo S).setIfInBounds 2 (.bool false)) ?_ rfl)⟩
  · (repeat first | exact Chg.refl _ _ | assumption | refine Chg.drew ?_ | refine Chg.drewN ?_ _ | refine Chg.alloc ?_ _ | refine Chg.setCell ?_ (by first | (left; rfl) | (left; assumption) | (right; exact Nat.le_refl _) | (right; simp; done) | (right; simp; omega)) _ | refine Chg.setBlock ?_ (by first | (left; rfl) | (left; assumption) | (right; exact Nat.le_refl _) | (right; simp; done) | (right; simp; omega)) _)
  · (repeat first | exact hm1 | refine Blk.drew ?_ | refine Blk.drewN ?_ _ | refine Blk.alloc ?_ _ | refine Blk.set_ ?_ _ _ | refine Blk.far ?_ (by simp; omega) _ | refine Blk.setb ?_ (by omega) _)

theorem new_any (w : World) : Calls Try.prog 64 #[] w fun e w' => ∃ hb, e = .returned (.pointer (some ⟨hb, 0, none⟩)) ∧ w.heap.size ≤ hb ∧ HeapIn w' hb ⟨[], 0, false, 0⟩ (nw (fun _ => False) w w') ∧ Below w.heap.size w w' ∧ ∃ m, Blk w' hb 130 (heapCells (some m) ⟨[], 0, false, 0⟩) := by
  have hmm := @run_makeMap Try.prog
  obtain ⟨ob, hcl, hmp⟩ := run_clear_map (P := Try.prog) (w.alloc (.map #[] 0)) 128 22 132 0 Try.underlying128 w.heap.size [] (MapIs.made w)
  have hcl' := fun o => hcl ((w.alloc (.map #[] 0)).alloc o) (Below.heap_alloc _ _ _ (by simp))
  clear hcl
  go_enter Try.func64, Try.ntmps64
  go_wp2_with fail
  go_ret
  have hsz : ∀ o : Obj, (setBlock ((w.alloc (.map #[] 0)).alloc o) w.heap.size ob).heap.size = w.heap.size + 2 := fun o => by rw [size_setBlock]; simp
  have hB : Blk (setBlock ((w.alloc (.map #[] 0)).alloc (.cells #[.map (some w.heap.size), .int .u64 0, .bool false, .int .i64 0] 130)) w.heap.size ob) (w.heap.size + 1) 130 (heapCells (some w.heap.size) ⟨[], 0, false, 0⟩) := by
    refine Blk.setb ?_ (by omega) _
    have := Blk.new (w.alloc (.map #[] 0)) 130 #[.map (some w.heap.size), .int .u64 0, .bool false, .int .i64 0]
    exact this.eq_cs rfl |> fun h => by simpa [heapCells] using h
  refine ⟨w.heap.size + 1, rfl, by omega, ⟨?_, ?_, ⟨some w.heap.size, hB, .inr ⟨_, rfl, ?_, hmp _ (by simp; omega)⟩⟩, (by simp), List.nodup_nil, List.nodup_nil, (by simp), by decide, by decide⟩, ?_, _, hB⟩
  · intro k hk
    rcases hk with h | h
    · exact h.elim
    · exact h.2
  · exact .inr ⟨by omega, by rw [hsz]; omega⟩
  · exact .inr ⟨Nat.le_refl _, by rw [hsz]; omega⟩
  · refine Chg.below (F := fun k => k = w.heap.size) ?_ (fun i hi => by omega) (Nat.le_refl _)
    (repeat first | exact Chg.refl _ _ | assumption | refine Chg.drew ?_ | refine Chg.drewN ?_ _ | refine Chg.alloc ?_ _ | refine Chg.setCell ?_ (by first | (left; rfl) | (left; assumption) | (right; exact Nat.le_refl _) | (right; simp; done) | (right; simp; omega)) _ | refine Chg.setBlock ?_ (by first | (left; rfl) | (left; assumption) | (right; exact Nat.le_refl _) | (right; simp; done) | (right; simp; omega)) _)

theorem fld0 (A : Option Addr) (n c : Nat) (s : ByteArray) (w : World) : (Instr.field 132 (.agg #[.slice A n c, .string s]) 0).run Try.prog w = .ok (.slice A n c) w := by kernel_rfl
set_option maxRecDepth 100000 in
theorem size_any {w : World} {hb : Nat} {S : PHeap} {F : Nat → Prop} (h : HeapIn w hb S F) (b : Int) :
    Calls Try.prog 103 #[.pointer (some ⟨hb, 0, none⟩), .int .u64 b] w fun e w' => e = .returned (.int .i64 (((S.find b).map fun x => (x.cells.length : Int)).getD 0)) ∧ w = w' := by
  obtain ⟨mo, hm1, hlk⟩ := h.look_ b
  have hl := hlk w (Nat.le_refl _) (fun k hk => rfl)
  have c0 : w.cell? ⟨hb, 0, none⟩ = some (.map mo) := hm1.cell 0
  have hfl := fld0
  cases hx : S.find b with
  | none =>
    simp only [hx, Option.map_none, Option.getD_none, noBlock] at hl
    clear hlk hx
    go_enter Try.func103, Try.ntmps103
    go_wp2_with fail
    go_ret
    exact ⟨rfl, rfl⟩
  | some x =>
    have hlen := (h.span x (find_mem hx).1).2.2.1
    simp only [hx, Option.map_some, Option.getD_some, PBlk.val] at hl
    clear hlk hx
    go_enter Try.func103, Try.ntmps103
    go_wp2_with fail
    go_ret
    exact ⟨rfl, rfl⟩

theorem HeapIn.dropped {w w' : World} {hb m : Nat} {S : PHeap} {F : Nat → Prop} {b : Int} (h : HeapIn w hb S F) (hB : Blk w hb 130 (heapCells (some m) S)) (hm : F m) (hc : Chg (fun k => k = m) w w') (hM : MapIs w m S.ents)
    (hM' : MapIs w' m (S.ents.filter fun p => p.1 != b)) : Turned F hb { S with blocks := S.blocks.filter fun y => y.key != b } w w' := by
  have hk : ∀ k, F k → k ≠ m → w'.heap[k]? = w.heap[k]? := fun k hk hn => hc.block k (h.own k hk) hn
  have hsub : (S.blocks.filter fun y => y.key != b).Sublist S.blocks := List.filter_sublist
  refine ⟨⟨h.own.nw hc.size, .inl h.hF, ⟨some m, (show Blk w' hb _ (heapCells (some m) S) from hB.keep (hk _ h.hF fun e => hM.ne_blk hB e.symm)), .inr ⟨m, rfl, .inl hm, ?_⟩⟩, fun y hy => ?_, ?_, ?_, fun y hy => h.span y (hsub.subset hy), h.last0, h.faults0⟩, hc.mono fun i hi => hi ▸ hm⟩
  · have : PHeap.ents { S with blocks := S.blocks.filter fun y => y.key != b } = S.ents.filter fun p => p.1 != b := by
      simp [PHeap.ents, List.filter_map, Function.comp_def]
    rw [this]
    exact hM'
  · obtain ⟨h1, h2⟩ := h.rows y (hsub.subset hy)
    exact ⟨.inl h1, h2.keep (hk _ h1 fun e => hM.ne_blk h2 e.symm)⟩
  · exact (hsub.map _).nodup h.apart
  · exact (hsub.map _).nodup h.keys

theorem drop_hit {w : World} {hb : Nat} {S : PHeap} {F : Nat → Prop} (h : HeapIn w hb S F) {b : Int} {x : PBlk} (hx : S.find b = some x) :
    Calls Try.prog 81 #[.pointer (some ⟨hb, 0, none⟩), .int .u64 b] w fun e w' => e = .returned (.int .i64 0) ∧ Turned F hb { S with blocks := S.blocks.filter fun y => y.key != b } w w' := by
  have hkn : (S.ents.map (·.1)).Nodup := by simpa [PHeap.ents, List.map_map, Function.comp_def] using h.keys
  go_enter Try.func81, Try.ntmps81
  go_wp2_with fail
  refine (block_hit h hx).mono ?_; rintro e w1 ⟨rfl, hb1⟩
  have h1 := h.below hb1
  obtain ⟨mo, hm1, hm2⟩ := h1.m
  rcases hm2 with ⟨_, h2, _⟩ | ⟨m, rfl, h2, h3⟩
  · have := (find_mem hx).1
    rw [h2] at this
    cases this
  · have hc0 := fun o => (hm1.alloc o).cell 0
    simp only [heapCells] at hc0
    obtain ⟨ob, hdl, hmp⟩ := run_del (P := Try.prog) w1 128 22 132 0 Try.underlying128 Try.underlying22 m S.ents h3 hkn b
    have hdl' := fun o => hdl (w1.alloc o) (Below.heap_alloc _ _ _ h3.lt)
    clear hdl
    have hmlt := h3.lt
    go_wp2_with fail
    go_ret
    refine ⟨rfl, Turned.after h.own hb1 (h1.dropped hm1 h2 ?_ h3 (hmp _ (by simp; omega)))⟩
    (repeat first | exact Chg.refl _ _ | assumption | refine Chg.drew ?_ | refine Chg.drewN ?_ _ | refine Chg.alloc ?_ _ | refine Chg.setCell ?_ (by first | (left; rfl) | (left; assumption) | (right; exact Nat.le_refl _) | (right; simp; done) | (right; simp; omega)) _ | refine Chg.setBlock ?_ (by first | (left; rfl) | (left; assumption) | (right; exact Nat.le_refl _) | (right; simp; done) | (right; simp; omega)) _)
theorem drop_bad {w : World} {hb : Nat} {S : PHeap} {F : Nat → Prop} (h : HeapIn w hb S F) {b : Int} (hb0 : 0 ≤ b) (hx : S.find b = none) (hf : S.faults < 9223372036854775807) :
    Calls Try.prog 81 #[.pointer (some ⟨hb, 0, none⟩), .int .u64 b] w fun e w' => e = .returned (.int .i64 (S.miss b)) ∧ Turned F hb S.fault w w' := by
  have hm := miss_le S b
  go_enter Try.func81, Try.ntmps81
  go_wp2_with fail
  refine (block_miss h hb0 hx hf).mono ?_; rintro e w1 ⟨rfl, h1, hc1⟩
  go_wp2_with fail
  go_ret
  exact ⟨rfl, Turned.more ⟨h1, hc1⟩ (Below.more_ (Below.refl _ _) _)⟩
end Go.Proofs.Ytpldnbdcpihjcaa
