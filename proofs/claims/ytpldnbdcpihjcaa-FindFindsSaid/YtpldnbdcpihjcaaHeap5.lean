/-
  The heap's method Make. No condition.
-/
import Derived.Test.YtpldnbdcpihjcaaHeap4
import Derived.StillTailTactics
import Derived.WalkSpells
namespace Go.Proofs.Ytpldnbdcpihjcaa
set_option linter.unusedVariables false
open Go.ChangeShapes Go.WideShapes Go.ChangeAt Go.RowKit
open Go.ChangeMaps (setBlock)

theorem info34 : (Try.prog.info? 22).map (fun i => (i.zero, i.size, i.bytes)) = some (some (.int .u64 0), 1, 8) := by kernel_rfl
theorem look_new {w : World} {hb : Nat} {S : PHeap} {F : Nat → Prop} (h : HeapIn w hb S F) : look S.ents (S.last + 1) = none := by
  rw [look_ents]
  have : S.find (S.last + 1) = none := by
    unfold PHeap.find
    rw [List.find?_eq_none]
    intro x hx
    have := (h.span x hx).2.1
    simp
    omega
  rw [this]
  rfl
theorem made_zero (n : Nat) : madeCells #[.int .u64 0] n = ((List.replicate n (0 : Int)).map (Value.int .u64)).toArray := by
  apply Array.ext'
  rw [toList_madeCells_one]
  simp
theorem HeapIn.made {w w' : World} {hb m r n : Nat} {s : ByteArray} {S : PHeap} {F : Nat → Prop} (h : HeapIn w hb S F) (hn : n ≤ 256) (hm : F m ∨ (w.heap.size ≤ m ∧ m < w'.heap.size)) (hmr : ∀ b ∈ S.blocks, b.row ≠ m) (hr : w.heap.size ≤ r ∧ r < w'.heap.size) (hc : Chg (fun k => k = hb ∨ k = m) w w')
    (hB : Blk w' hb 130 (heapCells (some m) { S with blocks := S.blocks ++ [⟨S.last + 1, r, List.replicate n 0, s⟩], last := S.last + 1 }))
    (hM : MapIs w' m (PHeap.ents { S with blocks := S.blocks ++ [⟨S.last + 1, r, List.replicate n 0, s⟩], last := S.last + 1 })) (hR : Blk w' r 22 ((List.replicate n (0 : Int)).map (Value.int .u64)).toArray) (hBw : ∃ cs, Blk w hb 130 cs) :
    Turned F hb { S with blocks := S.blocks ++ [⟨S.last + 1, r, List.replicate n 0, s⟩], last := S.last + 1 } w w' := by
  have hl0 := h.last0
  obtain ⟨cs, hBw⟩ := hBw
  refine ⟨⟨h.own.nw hc.size, .inl h.hF, ⟨some m, hB, .inr ⟨m, rfl, hm, hM⟩⟩, fun y hy => ?_, ?_, ?_, fun y hy => ?_, by show 0 ≤ S.last + 1; omega, h.faults0⟩, ⟨hc.os, hc.tape, hc.output, hc.size, fun k hk hn => hc.block k hk fun e => ?_⟩⟩
  · rcases List.mem_append.1 hy with h1 | h1
    · obtain ⟨h2, h3⟩ := h.rows y h1
      refine ⟨.inl h2, h3.keep (hc.block _ (h.own _ h2) fun e => ?_)⟩
      rcases e with e | e
      · exact Blk.ne_ h3 hBw (by decide) e
      · exact hmr y h1 e
    · simp only [List.mem_singleton] at h1
      subst h1
      exact ⟨.inr hr, hR⟩
  · show ((S.blocks ++ [(⟨S.last + 1, r, List.replicate n 0, s⟩ : PBlk)]).map (·.row)).Nodup
    rw [List.map_append, List.nodup_append]
    refine ⟨h.apart, by simp, fun a ha b hb' => ?_⟩
    simp only [List.map_cons, List.map_nil, List.mem_singleton] at hb'
    subst hb'
    obtain ⟨y, hy, rfl⟩ := List.mem_map.1 ha
    have := h.own _ (h.rows y hy).1
    show y.row ≠ _
    omega
  · show ((S.blocks ++ [(⟨S.last + 1, r, List.replicate n 0, s⟩ : PBlk)]).map (·.key)).Nodup
    rw [List.map_append, List.nodup_append]
    refine ⟨h.keys, by simp, fun a ha b hb' => ?_⟩
    simp only [List.map_cons, List.map_nil, List.mem_singleton] at hb'
    subst hb'
    obtain ⟨y, hy, rfl⟩ := List.mem_map.1 ha
    have := (h.span y hy).2.1
    show y.key ≠ S.last + 1
    omega
  · rcases List.mem_append.1 hy with h1 | h1
    · obtain ⟨a, b, c⟩ := h.span y h1
      exact ⟨a, by show y.key ≤ S.last + 1; omega, c⟩
    · simp only [List.mem_singleton] at h1
      subst h1
      refine ⟨by show 1 ≤ S.last + 1; omega, Int.le_refl _, by simpa using hn, fun z hz => ?_⟩
      have := List.eq_of_mem_replicate hz
      omega
  · rcases e with e | e
    · exact hn (e ▸ h.hF)
    · rcases hm with h1 | h1
      · exact hn (e ▸ h1)
      · omega
set_option maxRecDepth 100000 in
theorem make_any {w : World} {hb : Nat} {S : PHeap} {F : Nat → Prop} (h : HeapIn w hb S F) (n : Nat) (hn : n ≤ 256) (s : ByteArray) (hl : S.last < 9223372036854775807) :
    Calls Try.prog 25 #[.pointer (some ⟨hb, 0, none⟩), .int .i64 n, .string s] w fun e w' => e = .returned (.int .u64 (S.last + 1)) ∧
      ∃ r, Turned F hb { S with blocks := S.blocks ++ [⟨S.last + 1, r, List.replicate n 0, s⟩], last := S.last + 1 } w w' := by
  obtain ⟨i0, hi, hz0, hz1, hz2⟩ := info_parts info34
  have hmk := fun W => run_make_rowN (P := Try.prog) 62 22 i0 (.int .u64 0) Try.underlying62 hi hz0 .i64 .i64 n n (Nat.le_refl _) (by rw [hz2]; omega) (by omega) W
  rw [hz1] at hmk
  clear hi hz0 hz1 hz2
  have hmt := fun w r => run_eql_map_nil (P := Try.prog) w 128 22 132 r Try.underlying128
  have hl0 := h.last0
  have hlt := h.own _ h.hF
  obtain ⟨mo, hm1, hm2⟩ := h.m
  rcases hm2 with ⟨rfl, h2, h3⟩ | ⟨m, rfl, h2, h3⟩
  · have c0 : w.cell? ⟨hb, 0, none⟩ = some (.map none) := hm1.cell 0
    have c1 : w.cell? ⟨hb, 1, none⟩ = some (.int .u64 S.last) := hm1.cell 1
    have f0 := hm1.frozen 0
    have f1 := hm1.frozen 1
    have hmm := @run_makeMap Try.prog
    have hS : S.ents = [] := by unfold PHeap.ents; rw [h2]; rfl
    obtain ⟨ob, hpt, hmp⟩ := run_put (P := Try.prog) (w.alloc (.map #[] 0)) 128 22 132 Try.underlying128 Try.underlying22 w.heap.size [] (MapIs.made w) (S.last + 1) rfl (PBlk.val ⟨S.last + 1, w.heap.size + 1, List.replicate n 0, s⟩)
    simp only [PBlk.val, List.length_replicate] at hpt
    have hat : ∀ o, (((((w.setCell ⟨hb, 0, none⟩ (.map (some w.heap.size))).setCell ⟨hb, 1, none⟩ (.int .u64 (S.last + 1))).alloc (.map #[] 0)).alloc o).drew).heap[w.heap.size]? = (w.alloc (.map #[] 0)).heap[w.heap.size]? := by
      intro o
      have e1 := Below.heap_alloc (((w.setCell ⟨hb, 0, none⟩ (.map (some w.heap.size))).setCell ⟨hb, 1, none⟩ (.int .u64 (S.last + 1))).alloc (.map #[] 0)) o w.heap.size (by simp)
      have e2 := (MapKept.heap_alloc ((w.setCell ⟨hb, 0, none⟩ (.map (some w.heap.size))).setCell ⟨hb, 1, none⟩ (.int .u64 (S.last + 1))) (.map #[] 0)).1
      rw [size_setCell, size_setCell] at e2
      exact (e1.trans e2).trans (MapKept.heap_alloc w _).1.symm
    have hpt' := fun o => hpt _ (hat o)
    clear hpt hat
    have hcb := fun (W : World) => cell_setBlock W ob ⟨hb, 1, none⟩ (Nat.ne_of_lt hlt)
    rw [h3] at c1 hpt'
    simp only [Int.zero_add] at hpt'
    go_enter Try.func25, Try.ntmps25
    go_wp2_with fail
    go_region
    go_wp2_with fail
    go_ret
    have e3 : S.last + 1 = 1 := by omega
    refine ⟨by rw [h3]; rfl, w.heap.size + 1, h.made (m := w.heap.size) hn (.inr ⟨Nat.le_refl _, by simp [size_setBlock]; omega⟩) (fun y hy e => by rw [h2] at hy; cases hy) ⟨by omega, by simp [size_setBlock]⟩ ?_ ?_ ?_ ?_ ⟨_, hm1⟩⟩
    · refine Chg.setBlock (Chg.drew (Chg.alloc (Chg.alloc (Chg.setCell (Chg.setCell (Chg.refl (fun k => k = hb ∨ k = w.heap.size) w) (p := ⟨hb, 0, none⟩) (.inl (.inl rfl)) _) (p := ⟨hb, 1, none⟩) (.inl (.inl rfl)) _) _) _)) (.inl (.inr rfl)) _
    · refine Blk.eq_cs (cs := ((heapCells none S).setIfInBounds 0 (.map (some w.heap.size))).setIfInBounds 1 (.int .u64 1)) ?_ (by simp [heapCells, e3])
      refine Blk.setb (Blk.drew (Blk.alloc (Blk.alloc (Blk.set_ (Blk.set_ hm1 _ _) _ _) _) _)) (Nat.ne_of_lt hlt) _
    · have := hmp (((((w.setCell ⟨hb, 0, none⟩ (.map (some w.heap.size))).setCell ⟨hb, 1, none⟩ (.int .u64 1)).alloc (.map #[] 0)).alloc (.cells (madeCells #[.int .u64 0] n) 22)).drew) (by simp; omega)
      simpa [PHeap.ents, PBlk.val, h2] using this
    · refine Blk.setb ?_ (by omega) _
      have := Blk.new (((w.setCell ⟨hb, 0, none⟩ (.map (some w.heap.size))).setCell ⟨hb, 1, none⟩ (.int .u64 1)).alloc (.map #[] 0)) 22 (madeCells #[.int .u64 0] n)
      have e4 : (((w.setCell ⟨hb, 0, none⟩ (.map (some w.heap.size))).setCell ⟨hb, 1, none⟩ (.int .u64 1)).alloc (.map #[] 0)).heap.size = w.heap.size + 1 := by simp
      rw [e4] at this
      exact this.eq_cs (made_zero n)
  · have c0 : w.cell? ⟨hb, 0, none⟩ = some (.map (some m)) := hm1.cell 0
    have c1 : w.cell? ⟨hb, 1, none⟩ = some (.int .u64 S.last) := hm1.cell 1
    have f1 := hm1.frozen 1
    have hmlt := h3.lt
    have hne := h3.ne_blk hm1
    obtain ⟨ob, hpt, hmp⟩ := run_put (P := Try.prog) w 128 22 132 Try.underlying128 Try.underlying22 m S.ents h3 (S.last + 1) (look_new h) (PBlk.val ⟨S.last + 1, w.heap.size, List.replicate n 0, s⟩)
    simp only [PBlk.val, List.length_replicate] at hpt
    have hpt' := fun o => hpt (((w.setCell ⟨hb, 1, none⟩ (.int .u64 (S.last + 1))).alloc o).drew) ((Below.heap_alloc _ _ _ (by rw [size_setCell]; exact hmlt)).trans (Below.heap_setCell _ _ _ _ hne))
    clear hpt
    have hcb := fun (W : World) => cell_setBlock W ob ⟨hb, 1, none⟩ (Ne.symm hne)
    go_enter Try.func25, Try.ntmps25
    go_wp2_with fail
    go_region
    go_wp2_with fail
    go_ret
    refine ⟨rfl, w.heap.size, h.made (m := m) hn (.inl h2) (fun y hy e => h3.ne_blk (h.rows y hy).2 e.symm) ⟨Nat.le_refl _, by simp [size_setBlock]⟩ ?_ ?_ ?_ ?_ ⟨_, hm1⟩⟩
    · refine Chg.setBlock (Chg.drew (Chg.alloc (Chg.setCell (Chg.refl (fun k => k = hb ∨ k = m) w) (p := ⟨hb, 1, none⟩) (.inl (.inl rfl)) _) _)) (.inl (.inr rfl)) _
    · refine Blk.eq_cs (cs := (heapCells (some m) S).setIfInBounds 1 (.int .u64 (S.last + 1))) ?_ rfl
      refine Blk.setb (Blk.drew (Blk.alloc (Blk.set_ hm1 _ _) _)) (Ne.symm hne) _
    · have := hmp (((w.setCell ⟨hb, 1, none⟩ (.int .u64 (S.last + 1))).alloc (.cells (madeCells #[.int .u64 0] n) 22)).drew) (by simp; omega)
      simpa [PHeap.ents, PBlk.val] using this
    · refine Blk.setb ?_ (by omega) _
      have := Blk.new (w.setCell ⟨hb, 1, none⟩ (.int .u64 (S.last + 1))) 22 (madeCells #[.int .u64 0] n)
      rw [size_setCell] at this
      exact this.eq_cs (made_zero n)
end Go.Proofs.Ytpldnbdcpihjcaa
