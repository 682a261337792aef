/-
  The heap of blocks: how it lies in memory, and what each of its methods does there. No condition.
-/
import Derived.Test.YtpldnbdcpihjcaaProg
import Derived.Test.YtpldnbdcpihjcaaMem
import Derived.Deep.RegionWith
import Derived.Outline
namespace Go.Proofs.Ytpldnbdcpihjcaa
set_option linter.unusedVariables false
open Go.ChangeShapes Go.WideShapes Go.ChangeAt Go.RowKit
open Go.ChangeMaps (setBlock)

structure PBlk where
  key : Int
  row : Nat
  cells : List Int
  text : ByteArray
structure PHeap where
  blocks : List PBlk
  last : Int
  locked : Bool
  faults : Int

def PBlk.val (b : PBlk) : Value := .agg #[.slice (some ⟨b.row, 0, none⟩) b.cells.length b.cells.length, .string b.text]
def PHeap.ents (S : PHeap) : List (Int × Value) := S.blocks.map fun b => (b.key, b.val)
def PHeap.find (S : PHeap) (k : Int) : Option PBlk := S.blocks.find? fun b => b.key == k
def PHeap.miss (S : PHeap) (k : Int) : Int := if k = 0 ∨ S.last < k then 16 else 17
def PHeap.fault (S : PHeap) : PHeap := { S with faults := S.faults + 1 }
/-- A block that is not there. -/
def noBlock : Value := .agg #[.slice none 0 0, .string ByteArray.empty]

theorem look_ents (S : PHeap) (k : Int) : look S.ents k = (S.find k).map PBlk.val := by
  unfold look PHeap.ents PHeap.find
  rw [List.find?_map, Option.map_map]
  rfl

def heapCells (mo : Option Nat) (S : PHeap) : Array Value := #[.map mo, .int .u64 S.last, .bool S.locked, .int .i64 S.faults]

/-- The heap S stands at hb, all of it in F. -/
structure HeapIn (w : World) (hb : Nat) (S : PHeap) (F : Nat → Prop) : Prop where
  own : In F w
  hF : F hb
  m : ∃ mo, Blk w hb 130 (heapCells mo S) ∧ ((mo = none ∧ S.blocks = [] ∧ S.last = 0) ∨ ∃ m, mo = some m ∧ F m ∧ MapIs w m S.ents)
  rows : ∀ b ∈ S.blocks, F b.row ∧ Blk w b.row 22 (b.cells.map (Value.int .u64)).toArray
  apart : (S.blocks.map (·.row)).Nodup
  keys : (S.blocks.map (·.key)).Nodup
  span : ∀ b ∈ S.blocks, 1 ≤ b.key ∧ b.key ≤ S.last ∧ b.cells.length ≤ 256 ∧ ∀ z ∈ b.cells, 0 ≤ z ∧ z ≤ 18446744073709551615
  last0 : 0 ≤ S.last
  faults0 : 0 ≤ S.faults

theorem HeapIn.keep {w w' : World} {hb : Nat} {S : PHeap} {F : Nat → Prop} (h : HeapIn w hb S F) (hs : w.heap.size ≤ w'.heap.size) (hk : ∀ k, F k → w'.heap[k]? = w.heap[k]?) : HeapIn w' hb S F := by
  obtain ⟨mo, hm1, hm2⟩ := h.m
  refine ⟨h.own.mono hs, h.hF, ⟨mo, hm1.keep (hk _ h.hF), ?_⟩, fun b hbm => ⟨(h.rows b hbm).1, (h.rows b hbm).2.keep (hk _ (h.rows b hbm).1)⟩, h.apart, h.keys, h.span, h.last0, h.faults0⟩
  rcases hm2 with h1 | ⟨m, h1, h2, h3⟩
  · exact .inl h1
  · exact .inr ⟨m, h1, h2, h3.keep (hk _ h2)⟩
theorem HeapIn.mono {w : World} {hb : Nat} {S : PHeap} {F G : Nat → Prop} (h : HeapIn w hb S F) (hG : In G w) (hF : ∀ k, F k → G k) : HeapIn w hb S G := by
  obtain ⟨mo, hm1, hm2⟩ := h.m
  refine ⟨hG, hF _ h.hF, ⟨mo, hm1, ?_⟩, fun b hbm => ⟨hF _ (h.rows b hbm).1, (h.rows b hbm).2⟩, h.apart, h.keys, h.span, h.last0, h.faults0⟩
  rcases hm2 with h1 | ⟨m, h1, h2, h3⟩
  · exact .inl h1
  · exact .inr ⟨m, h1, hF _ h2, h3⟩
theorem HeapIn.below {w w' : World} {hb : Nat} {S : PHeap} {F : Nat → Prop} (h : HeapIn w hb S F) (hb' : Below w.heap.size w w') : HeapIn w' hb S F := h.keep hb'.size fun k hk => hb'.block k (h.own k hk)
theorem HeapIn.off {w w' : World} {hb : Nat} {S : PHeap} {F G : Nat → Prop} (h : HeapIn w hb S F) (hc : Chg G w w') (ho : Off G F) : HeapIn w' hb S F := h.keep hc.size (hc.off h.own ho)

theorem zero99 (w : World) : (zeroValue 132).run Try.prog w = .ok noBlock w := by kernel_rfl
theorem HeapIn.look {w : World} {hb : Nat} {S : PHeap} {F : Nat → Prop} (h : HeapIn w hb S F) (b : Int) : ∃ mo, Blk w hb 130 (heapCells mo S) ∧
    ∀ w', w.heap.size ≤ w'.heap.size → (∀ k, F k → w'.heap[k]? = w.heap[k]?) → (Instr.lookup 128 (.map mo) (.int .u64 b) true).run Try.prog w' = .ok (.tuple #[((S.find b).map PBlk.val).getD noBlock, .bool (S.find b).isSome]) w' := by
  obtain ⟨mo, hm1, hm2⟩ := h.m
  refine ⟨mo, hm1, fun w' hs hk => ?_⟩
  rcases hm2 with ⟨rfl, h1, h2⟩ | ⟨m, rfl, h2, h3⟩
  · have : S.find b = none := by unfold PHeap.find; rw [h1]; rfl
    rw [this]
    simp [Instr.lookup, run_underlying Try.underlying128, run_checkKey_u64 w' 22 Try.underlying22, Instr.findKey, run_underlying Try.underlying22, Instr.findNow]
    rfl
  · have := run_look (P := Try.prog) w' 128 22 132 Try.underlying128 Try.underlying22 noBlock zero99 m S.ents (h3.keep (hk _ h2)) b true
    rw [this, look_ents]
    cases S.find b <;> rfl

theorem HeapIn.look_ {w : World} {hb : Nat} {S : PHeap} {F : Nat → Prop} (h : HeapIn w hb S F) (b : Int) : ∃ mo, Blk w hb 130 (heapCells mo S) ∧
    ∀ w', w.heap.size ≤ w'.heap.size → (∀ k, F k → w'.heap[k]? = w.heap[k]?) → (Instr.lookup 128 (.map mo) (.int .u64 b) false).run Try.prog w' = .ok (((S.find b).map PBlk.val).getD noBlock) w' := by
  obtain ⟨mo, hm1, hm2⟩ := h.m
  refine ⟨mo, hm1, fun w' hs hk => ?_⟩
  rcases hm2 with ⟨rfl, h1, h2⟩ | ⟨m, rfl, h2, h3⟩
  · have : S.find b = none := by unfold PHeap.find; rw [h1]; rfl
    rw [this]
    simp [Instr.lookup, run_underlying Try.underlying128, run_checkKey_u64 w' 22 Try.underlying22, Instr.findKey, run_underlying Try.underlying22, Instr.findNow]
    rfl
  · have := run_look (P := Try.prog) w' 128 22 132 Try.underlying128 Try.underlying22 noBlock zero99 m S.ents (h3.keep (hk _ h2)) b false
    rw [this, look_ents]
    cases S.find b <;> rfl

theorem wrong_any (hb : Nat) (c f : Int) (w : World) (cs : Array Value) (hB : Blk w hb 130 cs) (hc : cs[3]? = some (.int .i64 f)) (hf : 0 ≤ f ∧ f < 9223372036854775807) :
    Calls Try.prog 100 #[.pointer (some ⟨hb, 0, none⟩), .int .i64 c] w fun e w' => e = .returned (.int .i64 c) ∧ w.setCell ⟨hb, 3, none⟩ (.int .i64 (f + 1)) = w' := by
  have h1 := (hB.cell 3).trans hc
  have h2 := hB.frozen 3
  clear hc
  go_enter Try.func100, Try.ntmps100
  go_wp2
  go_ret
  exact ⟨rfl, rfl⟩

theorem find_mem {S : PHeap} {b : Int} {x : PBlk} (h : S.find b = some x) : x ∈ S.blocks ∧ x.key = b := by
  unfold PHeap.find at h
  exact ⟨List.mem_of_find?_eq_some h, by simpa using List.find?_some h⟩

theorem block_hit {w : World} {hb : Nat} {S : PHeap} {F : Nat → Prop} (h : HeapIn w hb S F) {b : Int} {x : PBlk} (hx : S.find b = some x) :
    Calls Try.prog 99 #[.pointer (some ⟨hb, 0, none⟩), .int .u64 b] w fun e w' => e = .returned (.tuple #[.agg #[.slice (some ⟨x.row, 0, none⟩) x.cells.length x.cells.length, .string x.text], .int .i64 0]) ∧ Below w.heap.size w w' := by
  obtain ⟨mo, hm1, hlk⟩ := h.look b
  have hl := fun o => hlk (w.alloc o) (by simp) (fun k hk => Below.heap_alloc w o k (h.own k hk))
  simp only [hx, Option.map_some, Option.getD_some, Option.isSome_some, PBlk.val] at hl
  have hc0 := fun o => (hm1.alloc o).cell 0
  simp only [heapCells] at hc0
  clear hlk hx hm1
  go_enter Try.func99, Try.ntmps99
  go_wp2
  refine bodyPost_ret (v := .tuple #[.agg #[.slice (some ⟨x.row, 0, none⟩) x.cells.length x.cells.length, .string x.text], .int .i64 0]) (by simp [results, Try.results99, go_sem]) rfl ⟨rfl, ?_⟩
  repeat first | exact Below.refl _ _ | refine Below.more_ ?_ _ | refine Below.setCell ?_ (by simp) _

theorem HeapIn.faulted {w w' : World} {hb : Nat} {S : PHeap} {F : Nat → Prop} {mo : Option Nat} (h : HeapIn w hb S F) (hm : Blk w hb 130 (heapCells mo S)) (hc : Chg (fun k => k = hb) w w') (hB : Blk w' hb 130 (heapCells mo S.fault)) :
    HeapIn w' hb S.fault (nw F w w') ∧ Chg F w w' := by
  have hk : ∀ k, F k → k ≠ hb → w'.heap[k]? = w.heap[k]? := fun k hk hn => hc.block k (h.own k hk) hn
  obtain ⟨mo', hm1, hm2⟩ := h.m
  have e : mo' = mo := by
    unfold Blk at hm1 hm
    rw [hm] at hm1
    simp only [heapCells, Option.some.injEq, Obj.cells.injEq, Array.mk.injEq, List.cons.injEq, Value.map.injEq] at hm1
    exact hm1.1.1.symm
  subst e
  refine ⟨⟨h.own.nw hc.size, .inl h.hF, ⟨mo', hB, ?_⟩, fun b hb' => ⟨.inl (h.rows b hb').1, (h.rows b hb').2.keep (hk _ (h.rows b hb').1 ?_)⟩, h.apart, h.keys, h.span, h.last0, ?_⟩, hc.mono fun i hi => hi ▸ h.hF⟩
  · rcases hm2 with h1 | ⟨m, h1, h2, h3⟩
    · exact .inl h1
    · exact .inr ⟨m, h1, .inl h2, h3.keep (hk _ h2 (h3.ne_blk hm1))⟩
  · exact Blk.ne_ (h.rows b hb').2 hm1 (by decide)
  · show 0 ≤ S.faults + 1
    have := h.faults0
    omega

set_option maxHeartbeats 1000000 in
theorem block_miss {w : World} {hb : Nat} {S : PHeap} {F : Nat → Prop} (h : HeapIn w hb S F) {b : Int} (hb0 : 0 ≤ b) (hx : S.find b = none) (hf : S.faults < 9223372036854775807) :
    Calls Try.prog 99 #[.pointer (some ⟨hb, 0, none⟩), .int .u64 b] w fun e w' => e = .returned (.tuple #[.agg #[.slice none 0 0, .string ByteArray.empty], .int .i64 (S.miss b)]) ∧ HeapIn w' hb S.fault (nw F w w') ∧ Chg F w w' := by
  obtain ⟨mo, hm1, hlk⟩ := h.look b
  have hl := fun o => hlk (w.alloc o) (by simp) (fun k hk => Below.heap_alloc w o k (h.own k hk))
  simp only [hx, Option.map_none, Option.getD_none, Option.isSome_none, noBlock] at hl
  have hc0 := fun o => (hm1.alloc o).cell 0
  have hc1 := fun o o' => ((hm1.alloc o).alloc o').cell 1
  simp only [heapCells] at hc0 hc1
  have hf0 := h.faults0
  have hl0 := h.last0
  have hlt := h.own _ h.hF
  have hB := fun o o' => ((hm1.alloc o).alloc o').drew
  clear hlk hx
  by_cases hz : b = 0
  · have hm : S.miss b = 16 := if_pos (by omega)
    rw [hm]
    subst hz
    go_enter Try.func99, Try.ntmps99
    go_wp2_with fail
    go_region_with (go_at_call 100; refine (wrong_any hb 16 S.faults _ _ (hB _ _) rfl (by omega)).mono ?_; rintro e w1 ⟨rfl, rfl⟩)
    all_goals go_wp2_with fail
    all_goals
      refine bodyPost_ret (v := .tuple #[.agg #[.slice none 0 0, .string ByteArray.empty], .int .i64 16]) (by simp [results, Try.results99, go_sem, Act.put]) rfl ⟨rfl, ?_⟩
      refine h.faulted hm1 ?_ (Blk.eq_cs (cs := (heapCells mo S).setIfInBounds 3 (.int .i64 (S.faults + 1))) ?_ rfl)
      · (repeat first | exact Chg.refl _ _ | assumption | refine Chg.drew ?_ | refine Chg.drewN ?_ _ | refine Chg.alloc ?_ _ | refine Chg.setCell ?_ (by first | (left; rfl) | (left; assumption) | (right; exact Nat.le_refl _) | (right; simp; done) | (right; simp; omega)) _ | refine Chg.setBlock ?_ (by first | (left; rfl) | (left; assumption) | (right; exact Nat.le_refl _) | (right; simp; done) | (right; simp; omega)) _)
      · (repeat first | exact hm1 | refine Blk.drew ?_ | refine Blk.drewN ?_ _ | refine Blk.alloc ?_ _ | refine Blk.set_ ?_ _ _ | refine Blk.far ?_ (by simp; omega) _ | refine Blk.setb ?_ (by omega) _)
  · by_cases hlast : S.last < b
    · have hm : S.miss b = 16 := if_pos (by omega)
      rw [hm]
      go_enter Try.func99, Try.ntmps99
      go_wp2_with fail
      go_region_with (go_at_call 100; refine (wrong_any hb 16 S.faults _ _ (hB _ _) rfl (by omega)).mono ?_; rintro e w1 ⟨rfl, rfl⟩)
      all_goals go_wp2_with fail
      all_goals
        refine bodyPost_ret (v := .tuple #[.agg #[.slice none 0 0, .string ByteArray.empty], .int .i64 16]) (by simp [results, Try.results99, go_sem, Act.put]) rfl ⟨rfl, ?_⟩
        refine h.faulted hm1 ?_ (Blk.eq_cs (cs := (heapCells mo S).setIfInBounds 3 (.int .i64 (S.faults + 1))) ?_ rfl)
        · (repeat first | exact Chg.refl _ _ | assumption | refine Chg.drew ?_ | refine Chg.drewN ?_ _ | refine Chg.alloc ?_ _ | refine Chg.setCell ?_ (by first | (left; rfl) | (left; assumption) | (right; exact Nat.le_refl _) | (right; simp; done) | (right; simp; omega)) _ | refine Chg.setBlock ?_ (by first | (left; rfl) | (left; assumption) | (right; exact Nat.le_refl _) | (right; simp; done) | (right; simp; omega)) _)
        · (repeat first | exact hm1 | refine Blk.drew ?_ | refine Blk.drewN ?_ _ | refine Blk.alloc ?_ _ | refine Blk.set_ ?_ _ _ | refine Blk.far ?_ (by simp; omega) _ | refine Blk.setb ?_ (by omega) _)
    · have hm : S.miss b = 17 := if_neg (by omega)
      rw [hm]
      go_enter Try.func99, Try.ntmps99
      go_wp2_with fail
      go_region_with (go_at_call 100; refine (wrong_any hb 17 S.faults _ _ (hB _ _) rfl (by omega)).mono ?_; rintro e w1 ⟨rfl, rfl⟩)
      all_goals go_wp2_with fail
      all_goals
        refine bodyPost_ret (v := .tuple #[.agg #[.slice none 0 0, .string ByteArray.empty], .int .i64 17]) (by simp [results, Try.results99, go_sem, Act.put]) rfl ⟨rfl, ?_⟩
        refine h.faulted hm1 ?_ (Blk.eq_cs (cs := (heapCells mo S).setIfInBounds 3 (.int .i64 (S.faults + 1))) ?_ rfl)
        · (repeat first | exact Chg.refl _ _ | assumption | refine Chg.drew ?_ | refine Chg.drewN ?_ _ | refine Chg.alloc ?_ _ | refine Chg.setCell ?_ (by first | (left; rfl) | (left; assumption) | (right; exact Nat.le_refl _) | (right; simp; done) | (right; simp; omega)) _ | refine Chg.setBlock ?_ (by first | (left; rfl) | (left; assumption) | (right; exact Nat.le_refl _) | (right; simp; done) | (right; simp; omega)) _)
        · (repeat first | exact hm1 | refine Blk.drew ?_ | refine Blk.drewN ?_ _ | refine Blk.alloc ?_ _ | refine Blk.set_ ?_ _ _ | refine Blk.far ?_ (by simp; omega) _ | refine Blk.setb ?_ (by omega) _)
end Go.Proofs.Ytpldnbdcpihjcaa
