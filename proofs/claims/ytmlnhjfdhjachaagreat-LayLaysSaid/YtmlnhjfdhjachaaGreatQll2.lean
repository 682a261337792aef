import Derived.Test.YtmlnhjfdhjachaaGreatProg
import Derived.Deep.RegionWith
import Derived.Outline
import Derived.StillTailTactics
import Derived.WalkSpells
import Derived.Test.YtmlnhjfdhjachaaGreatQll1
/-
  The heap of blocks: how it lies in memory, and what each of its methods does there. No condition.
-/
namespace Go.Proofs.YtmlnhjfdhjachaaGreat
set_option linter.unusedVariables false
open Go.ChangeShapes Go.WideShapes Go.ChangeAt Go.RowKit
open Go.ChangeMaps (setBlock)

structure PBlk where
  key : Int
  row : Nat
  cells : List Int
  text : ByteArray
structure PHeap where
  blocks : List PBlk
  last : Int
  locked : Bool
  faults : Int

/-- Where a block's cells lie: its row number holds the memory's block, and the room that is to spare behind the cells. -/
def PBlk.pos (b : PBlk) : Nat := b.row / 18446744073709551616
def PBlk.cap (b : PBlk) : Nat := b.cells.length + b.row % 18446744073709551616
def rowAt (p s : Nat) : Nat := p * 18446744073709551616 + s
theorem pos_rowAt (k : Int) (p s : Nat) (hs : s < 18446744073709551616) (cs : List Int) (t : ByteArray) : PBlk.pos ⟨k, rowAt p s, cs, t⟩ = p ∧ PBlk.cap ⟨k, rowAt p s, cs, t⟩ = cs.length + s := by
  unfold PBlk.pos PBlk.cap rowAt
  constructor
  · show (p * 18446744073709551616 + s) / 18446744073709551616 = p
    omega
  · show cs.length + (p * 18446744073709551616 + s) % 18446744073709551616 = cs.length + s
    omega
def PBlk.val (b : PBlk) : Value := .agg #[.slice (some ⟨b.pos, 0, none⟩) b.cells.length b.cap, .string b.text]
def PHeap.ents (S : PHeap) : List (Int × Value) := S.blocks.map fun b => (b.key, b.val)
def PHeap.find (S : PHeap) (k : Int) : Option PBlk := S.blocks.find? fun b => b.key == k
def PHeap.miss (S : PHeap) (k : Int) : Int := if k = 0 ∨ S.last < k then 16 else 17
def PHeap.fault (S : PHeap) : PHeap := { S with faults := S.faults + 1 }
/-- A block that is not there. -/
def noBlock : Value := .agg #[.slice none 0 0, .string ByteArray.empty]

theorem look_ents (S : PHeap) (k : Int) : look S.ents k = (S.find k).map PBlk.val := by
  unfold look PHeap.ents PHeap.find
  rw [List.find?_map, Option.map_map]
  rfl

def heapCells (mo : Option Nat) (S : PHeap) : Array Value := #[.map mo, .int .u64 S.last, .bool S.locked, .int .i64 S.faults]

/-- The heap S stands at hb, all of it in F. -/
structure HeapIn (w : World) (hb : Nat) (S : PHeap) (F : Nat → Prop) : Prop where
  own : In F w
  hF : F hb
  m : ∃ mo, Blk w hb 136 (heapCells mo S) ∧ ((mo = none ∧ S.blocks = [] ∧ S.last = 0) ∨ ∃ m, mo = some m ∧ F m ∧ MapIs w m S.ents)
  rows : ∀ b ∈ S.blocks, b.cells ≠ [] → F b.pos ∧ ∃ xs : List Value, Blk w b.pos 22 (b.cells.map (Value.int .u64) ++ xs).toArray
  apart : ∀ x ∈ S.blocks, ∀ y ∈ S.blocks, x.cells ≠ [] → y.cells ≠ [] → x.pos = y.pos → x.key = y.key
  keys : (S.blocks.map (·.key)).Nodup
  span : ∀ b ∈ S.blocks, 1 ≤ b.key ∧ b.key ≤ S.last ∧ b.cells.length ≤ 256 ∧ ∀ z ∈ b.cells, 0 ≤ z ∧ z ≤ 18446744073709551615
  last0 : 0 ≤ S.last
  faults0 : 0 ≤ S.faults

theorem HeapIn.keep {w w' : World} {hb : Nat} {S : PHeap} {F : Nat → Prop} (h : HeapIn w hb S F) (hs : w.heap.size ≤ w'.heap.size) (hk : ∀ k, F k → w'.heap[k]? = w.heap[k]?) : HeapIn w' hb S F := by
  obtain ⟨mo, hm1, hm2⟩ := h.m
  refine ⟨h.own.mono hs, h.hF, ⟨mo, hm1.keep (hk _ h.hF), ?_⟩, fun b hbm hne => ⟨(h.rows b hbm hne).1, (h.rows b hbm hne).2.imp fun xs hx => hx.keep (hk _ (h.rows b hbm hne).1)⟩, h.apart, h.keys, h.span, h.last0, h.faults0⟩
  rcases hm2 with h1 | ⟨m, h1, h2, h3⟩
  · exact .inl h1
  · exact .inr ⟨m, h1, h2, h3.keep (hk _ h2)⟩
theorem HeapIn.mono {w : World} {hb : Nat} {S : PHeap} {F G : Nat → Prop} (h : HeapIn w hb S F) (hG : In G w) (hF : ∀ k, F k → G k) : HeapIn w hb S G := by
  obtain ⟨mo, hm1, hm2⟩ := h.m
  refine ⟨hG, hF _ h.hF, ⟨mo, hm1, ?_⟩, fun b hbm hne => ⟨hF _ (h.rows b hbm hne).1, (h.rows b hbm hne).2⟩, h.apart, h.keys, h.span, h.last0, h.faults0⟩
  rcases hm2 with h1 | ⟨m, h1, h2, h3⟩
  · exact .inl h1
  · exact .inr ⟨m, h1, hF _ h2, h3⟩
theorem HeapIn.below {w w' : World} {hb : Nat} {S : PHeap} {F : Nat → Prop} (h : HeapIn w hb S F) (hb' : Below w.heap.size w w') : HeapIn w' hb S F := h.keep hb'.size fun k hk => hb'.block k (h.own k hk)
theorem HeapIn.off {w w' : World} {hb : Nat} {S : PHeap} {F G : Nat → Prop} (h : HeapIn w hb S F) (hc : Chg G w w') (ho : Off G F) : HeapIn w' hb S F := h.keep hc.size (hc.off h.own ho)

theorem zero99 (w : World) : (zeroValue 172).run Tryz.prog w = .ok noBlock w := by kernel_rfl
theorem HeapIn.look {w : World} {hb : Nat} {S : PHeap} {F : Nat → Prop} (h : HeapIn w hb S F) (b : Int) : ∃ mo, Blk w hb 136 (heapCells mo S) ∧
    ∀ w', w.heap.size ≤ w'.heap.size → (∀ k, F k → w'.heap[k]? = w.heap[k]?) → (Instr.lookup 134 (.map mo) (.int .u64 b) true).run Tryz.prog w' = .ok (.tuple #[((S.find b).map PBlk.val).getD noBlock, .bool (S.find b).isSome]) w' := by
  obtain ⟨mo, hm1, hm2⟩ := h.m
  refine ⟨mo, hm1, fun w' hs hk => ?_⟩
  rcases hm2 with ⟨rfl, h1, h2⟩ | ⟨m, rfl, h2, h3⟩
  · have : S.find b = none := by unfold PHeap.find; rw [h1]; rfl
    rw [this]
    simp [Instr.lookup, run_underlying Tryz.underlying134, run_checkKey_u64 w' 22 Tryz.underlying22, Instr.findKey, run_underlying Tryz.underlying22, Instr.findNow]
    rfl
  · have := run_look (P := Tryz.prog) w' 134 22 172 Tryz.underlying134 Tryz.underlying22 noBlock zero99 m S.ents (h3.keep (hk _ h2)) b true
    rw [this, look_ents]
    cases S.find b <;> rfl

theorem HeapIn.look_ {w : World} {hb : Nat} {S : PHeap} {F : Nat → Prop} (h : HeapIn w hb S F) (b : Int) : ∃ mo, Blk w hb 136 (heapCells mo S) ∧
    ∀ w', w.heap.size ≤ w'.heap.size → (∀ k, F k → w'.heap[k]? = w.heap[k]?) → (Instr.lookup 134 (.map mo) (.int .u64 b) false).run Tryz.prog w' = .ok (((S.find b).map PBlk.val).getD noBlock) w' := by
  obtain ⟨mo, hm1, hm2⟩ := h.m
  refine ⟨mo, hm1, fun w' hs hk => ?_⟩
  rcases hm2 with ⟨rfl, h1, h2⟩ | ⟨m, rfl, h2, h3⟩
  · have : S.find b = none := by unfold PHeap.find; rw [h1]; rfl
    rw [this]
    simp [Instr.lookup, run_underlying Tryz.underlying134, run_checkKey_u64 w' 22 Tryz.underlying22, Instr.findKey, run_underlying Tryz.underlying22, Instr.findNow]
    rfl
  · have := run_look (P := Tryz.prog) w' 134 22 172 Tryz.underlying134 Tryz.underlying22 noBlock zero99 m S.ents (h3.keep (hk _ h2)) b false
    rw [this, look_ents]
    cases S.find b <;> rfl

theorem wrong_any (hb : Nat) (c f : Int) (w : World) (cs : Array Value) (hB : Blk w hb 136 cs) (hc : cs[3]? = some (.int .i64 f)) (hf : 0 ≤ f ∧ f < 9223372036854775807) :
    Calls Tryz.prog 92 #[.pointer (some ⟨hb, 0, none⟩), .int .i64 c] w fun e w' => e = .returned (.int .i64 c) ∧ w.setCell ⟨hb, 3, none⟩ (.int .i64 (f + 1)) = w' := by
  have h1 := (hB.cell 3).trans hc
  have h2 := hB.frozen 3
  clear hc
  go_enter Tryz.func92, Tryz.ntmps92
  go_wp2
  go_ret
  exact ⟨rfl, rfl⟩

theorem find_mem {S : PHeap} {b : Int} {x : PBlk} (h : S.find b = some x) : x ∈ S.blocks ∧ x.key = b := by
  unfold PHeap.find at h
  exact ⟨List.mem_of_find?_eq_some h, by simpa using List.find?_some h⟩

theorem block_hit {w : World} {hb : Nat} {S : PHeap} {F : Nat → Prop} (h : HeapIn w hb S F) {b : Int} {x : PBlk} (hx : S.find b = some x) :
    Calls Tryz.prog 91 #[.pointer (some ⟨hb, 0, none⟩), .int .u64 b] w fun e w' => e = .returned (.tuple #[.agg #[.slice (some ⟨x.pos, 0, none⟩) x.cells.length x.cap, .string x.text], .int .i64 0]) ∧ Below w.heap.size w w' := by
  obtain ⟨mo, hm1, hlk⟩ := h.look b
  have hl := fun o => hlk (w.alloc o) (by simp) (fun k hk => Below.heap_alloc w o k (h.own k hk))
  simp only [hx, Option.map_some, Option.getD_some, Option.isSome_some, PBlk.val] at hl
  have hc0 := fun o => (hm1.alloc o).cell 0
  simp only [heapCells] at hc0
  clear hlk hx hm1
  go_enter Tryz.func91, Tryz.ntmps91
  go_wp2
  refine bodyPost_ret (v := .tuple #[.agg #[.slice (some ⟨x.pos, 0, none⟩) x.cells.length x.cap, .string x.text], .int .i64 0]) (by simp [results, Tryz.results91, go_sem]) rfl ⟨rfl, ?_⟩
  repeat first | exact Below.refl _ _ | refine Below.more_ ?_ _ | refine Below.setCell ?_ (by simp) _

theorem HeapIn.faulted {w w' : World} {hb : Nat} {S : PHeap} {F : Nat → Prop} {mo : Option Nat} (h : HeapIn w hb S F) (hm : Blk w hb 136 (heapCells mo S)) (hc : Chg (fun k => k = hb) w w') (hB : Blk w' hb 136 (heapCells mo S.fault)) :
    HeapIn w' hb S.fault (nw F w w') ∧ Chg F w w' := by
  have hk : ∀ k, F k → k ≠ hb → w'.heap[k]? = w.heap[k]? := fun k hk hn => hc.block k (h.own k hk) hn
  obtain ⟨mo', hm1, hm2⟩ := h.m
  have e : mo' = mo := by
    unfold Blk at hm1 hm
    rw [hm] at hm1
    simp only [heapCells, Option.some.injEq, Obj.cells.injEq, Array.mk.injEq, List.cons.injEq, Value.map.injEq] at hm1
    exact hm1.1.1.symm
  subst e
  refine ⟨⟨h.own.nw hc.size, .inl h.hF, ⟨mo', hB, ?_⟩, fun b hb' hne => ⟨.inl (h.rows b hb' hne).1, (h.rows b hb' hne).2.imp fun xs hx => hx.keep (hk _ (h.rows b hb' hne).1 (Blk.ne_ hx hm1 (by decide)))⟩, h.apart, h.keys, h.span, h.last0, ?_⟩, hc.mono fun i hi => hi ▸ h.hF⟩
  · rcases hm2 with h1 | ⟨m, h1, h2, h3⟩
    · exact .inl h1
    · exact .inr ⟨m, h1, .inl h2, h3.keep (hk _ h2 (h3.ne_blk hm1))⟩
  · show 0 ≤ S.faults + 1
    have := h.faults0
    omega

set_option maxHeartbeats 1000000 in
theorem block_miss {w : World} {hb : Nat} {S : PHeap} {F : Nat → Prop} (h : HeapIn w hb S F) {b : Int} (hb0 : 0 ≤ b) (hx : S.find b = none) (hf : S.faults < 9223372036854775807) :
    Calls Tryz.prog 91 #[.pointer (some ⟨hb, 0, none⟩), .int .u64 b] w fun e w' => e = .returned (.tuple #[.agg #[.slice none 0 0, .string ByteArray.empty], .int .i64 (S.miss b)]) ∧ HeapIn w' hb S.fault (nw F w w') ∧ Chg F w w' := by
  obtain ⟨mo, hm1, hlk⟩ := h.look b
  have hl := fun o => hlk (w.alloc o) (by simp) (fun k hk => Below.heap_alloc w o k (h.own k hk))
  simp only [hx, Option.map_none, Option.getD_none, Option.isSome_none, noBlock] at hl
  have hc0 := fun o => (hm1.alloc o).cell 0
  have hc1 := fun o o' => ((hm1.alloc o).alloc o').cell 1
  simp only [heapCells] at hc0 hc1
  have hf0 := h.faults0
  have hl0 := h.last0
  have hlt := h.own _ h.hF
  have hB := fun o o' => ((hm1.alloc o).alloc o').drew
  clear hlk hx
  by_cases hz : b = 0
  · have hm : S.miss b = 16 := if_pos (by omega)
    rw [hm]
    subst hz
    go_enter Tryz.func91, Tryz.ntmps91
    go_wp2_with fail
    go_region_with (go_at_call 92; refine (wrong_any hb 16 S.faults _ _ (hB _ _) rfl (by omega)).mono ?_; rintro e w1 ⟨rfl, rfl⟩)
    all_goals go_wp2_with fail
    all_goals
      refine bodyPost_ret (v := .tuple #[.agg #[.slice none 0 0, .string ByteArray.empty], .int .i64 16]) (by simp [results, Tryz.results91, go_sem, Act.put]) rfl ⟨rfl, ?_⟩
      refine h.faulted hm1 ?_ (Blk.eq_cs (cs := (heapCells mo S).setIfInBounds 3 (.int .i64 (S.faults + 1))) ?_ rfl)
      · (repeat first | exact Chg.refl _ _ | assumption | refine Chg.drew ?_ | refine Chg.drewN ?_ _ | refine Chg.alloc ?_ _ | refine Chg.setCell ?_ (by first | (left; rfl) | (left; assumption) | (right; exact Nat.le_refl _) | (right; simp; done) | (right; simp; omega)) _ | refine Chg.setBlock ?_ (by first | (left; rfl) | (left; assumption) | (right; exact Nat.le_refl _) | (right; simp; done) | (right; simp; omega)) _)
      · (repeat first | exact hm1 | refine Blk.drew ?_ | refine Blk.drewN ?_ _ | refine Blk.alloc ?_ _ | refine Blk.set_ ?_ _ _ | refine Blk.far ?_ (by simp; omega) _ | refine Blk.setb ?_ (by omega) _)
  · by_cases hlast : S.last < b
    · have hm : S.miss b = 16 := if_pos (by omega)
      rw [hm]
      go_enter Tryz.func91, Tryz.ntmps91
      go_wp2_with fail
      go_region_with (go_at_call 92; refine (wrong_any hb 16 S.faults _ _ (hB _ _) rfl (by omega)).mono ?_; rintro e w1 ⟨rfl, rfl⟩)
      all_goals go_wp2_with fail
      all_goals
        refine bodyPost_ret (v := .tuple #[.agg #[.slice none 0 0, .string ByteArray.empty], .int .i64 16]) (by simp [results, Tryz.results91, go_sem, Act.put]) rfl ⟨rfl, ?_⟩
        refine h.faulted hm1 ?_ (Blk.eq_cs (cs := (heapCells mo S).setIfInBounds 3 (.int .i64 (S.faults + 1))) ?_ rfl)
        · (repeat first | exact Chg.refl _ _ | assumption | refine Chg.drew ?_ | refine Chg.drewN ?_ _ | refine Chg.alloc ?_ _ | refine Chg.setCell ?_ (by first | (left; rfl) | (left; assumption) | (right; exact Nat.le_refl _) | (right; simp; done) | (right; simp; omega)) _ | refine Chg.setBlock ?_ (by first | (left; rfl) | (left; assumption) | (right; exact Nat.le_refl _) | (right; simp; done) | (right; simp; omega)) _)
        · (repeat first | exact hm1 | refine Blk.drew ?_ | refine Blk.drewN ?_ _ | refine Blk.alloc ?_ _ | refine Blk.set_ ?_ _ _ | refine Blk.far ?_ (by simp; omega) _ | refine Blk.setb ?_ (by omega) _)
    · have hm : S.miss b = 17 := if_neg (by omega)
      rw [hm]
      go_enter Tryz.func91, Tryz.ntmps91
      go_wp2_with fail
      go_region_with (go_at_call 92; refine (wrong_any hb 17 S.faults _ _ (hB _ _) rfl (by omega)).mono ?_; rintro e w1 ⟨rfl, rfl⟩)
      all_goals go_wp2_with fail
      all_goals
        refine bodyPost_ret (v := .tuple #[.agg #[.slice none 0 0, .string ByteArray.empty], .int .i64 17]) (by simp [results, Tryz.results91, go_sem, Act.put]) rfl ⟨rfl, ?_⟩
        refine h.faulted hm1 ?_ (Blk.eq_cs (cs := (heapCells mo S).setIfInBounds 3 (.int .i64 (S.faults + 1))) ?_ rfl)
        · (repeat first | exact Chg.refl _ _ | assumption | refine Chg.drew ?_ | refine Chg.drewN ?_ _ | refine Chg.alloc ?_ _ | refine Chg.setCell ?_ (by first | (left; rfl) | (left; assumption) | (right; exact Nat.le_refl _) | (right; simp; done) | (right; simp; omega)) _ | refine Chg.setBlock ?_ (by first | (left; rfl) | (left; assumption) | (right; exact Nat.le_refl _) | (right; simp; done) | (right; simp; omega)) _)
        · (repeat first | exact hm1 | refine Blk.drew ?_ | refine Blk.drewN ?_ _ | refine Blk.alloc ?_ _ | refine Blk.set_ ?_ _ _ | refine Blk.far ?_ (by simp; omega) _ | refine Blk.setb ?_ (by omega) _)
end Go.Proofs.YtmlnhjfdhjachaaGreat

/-
  The heap's methods on cells: cell, Load, Store, Swap, Bump, Words. No condition.
-/
namespace Go.Proofs.YtmlnhjfdhjachaaGreat
set_option linter.unusedVariables false
open Go.ChangeShapes Go.WideShapes Go.ChangeAt Go.RowKit
open Go.ChangeMaps (setBlock)

/-- A cell's code: 0 where it is there. -/
def PHeap.code (S : PHeap) (b i : Int) : Int := match S.find b with
  | none => S.miss b
  | some x => if 0 ≤ i ∧ i < x.cells.length then 0 else 18
theorem miss_le (S : PHeap) (b : Int) : 16 ≤ S.miss b ∧ S.miss b ≤ 17 := by unfold PHeap.miss; split <;> omega
theorem code_hit {S : PHeap} {b i : Int} {x : PBlk} (hx : S.find b = some x) (hi : 0 ≤ i ∧ i < x.cells.length) : S.code b i = 0 := by unfold PHeap.code; rw [hx]; exact if_pos hi
theorem code_out {S : PHeap} {b i : Int} {x : PBlk} (hx : S.find b = some x) (hi : ¬ (0 ≤ i ∧ i < x.cells.length)) : S.code b i = 18 := by unfold PHeap.code; rw [hx]; exact if_neg hi
theorem code_miss {S : PHeap} {b i : Int} (hx : S.find b = none) : S.code b i = S.miss b := by unfold PHeap.code; rw [hx]

/-- The call has turned the heap into S', and nothing else that was there. -/
def Turned (F : Nat → Prop) (hb : Nat) (S' : PHeap) (w w' : World) : Prop := HeapIn w' hb S' (nw F w w') ∧ Chg F w w'
section
variable {F : Nat → Prop} {hb : Nat} {S S1 S2 : PHeap} {w w1 w2 : World}
theorem nw_sub (h1 : w.heap.size ≤ w1.heap.size) (k : Nat) (hk : nw F w1 w2 k) : nw F w w2 k := by
  rcases hk with h | h
  · exact .inl h
  · exact .inr ⟨Nat.le_trans h1 h.1, h.2⟩
theorem nw_more (h1 : w1.heap.size ≤ w2.heap.size) (k : Nat) (hk : nw F w w1 k) : nw F w w2 k := by
  rcases hk with h | h
  · exact .inl h
  · exact .inr ⟨h.1, Nat.lt_of_lt_of_le h.2 h1⟩
theorem nw_in (hF : In F w) (hs : w.heap.size ≤ w2.heap.size) : In (nw F w w2) w2 := hF.nw hs
theorem Turned.after (hF : In F w) (hb1 : Below w.heap.size w w1) (t : Turned F hb S1 w1 w2) : Turned F hb S1 w w2 :=
  ⟨t.1.mono (nw_in hF (Nat.le_trans hb1.size t.2.size)) (nw_sub hb1.size), (Chg.of_below hb1 F).trans t.2 fun _ h => .inl h⟩
theorem Turned.more (t : Turned F hb S1 w w1) (hb1 : Below w1.heap.size w1 w2) : Turned F hb S1 w w2 :=
  ⟨(t.1.below hb1).mono (fun k hk => by
    rcases hk with h | h
    · exact Nat.lt_of_lt_of_le (t.1.own k (.inl h)) hb1.size
    · exact h.2) (nw_more hb1.size), t.2.next_ hb1⟩
theorem Turned.trans (t : Turned F hb S1 w w1) (u : Turned (nw F w w1) hb S2 w1 w2) : Turned F hb S2 w w2 := by
  refine ⟨u.1.mono (fun k hk => ?_) (fun k hk => ?_), t.2.then_ u.2⟩
  · rcases hk with h | h
    · exact Nat.lt_of_lt_of_le (t.1.own k (.inl h)) u.2.size
    · exact h.2
  · rcases hk with h | h
    · exact nw_more u.2.size k h
    · exact .inr ⟨Nat.le_trans t.2.size h.1, h.2⟩
theorem Turned.still (h : HeapIn w hb S F) (hb1 : Below w.heap.size w w1) : Turned F hb S w w1 :=
  ⟨(h.below hb1).mono (h.own.nw hb1.size) (fun _ h => .inl h), Chg.of_below hb1 F⟩
end

theorem cell_hit {w : World} {hb : Nat} {S : PHeap} {F : Nat → Prop} (h : HeapIn w hb S F) {b : Int} {x : PBlk} (hx : S.find b = some x) (i : Nat) (hi : i < x.cells.length) :
    Calls Tryz.prog 63 #[.pointer (some ⟨hb, 0, none⟩), .int .u64 b, .int .i64 i] w fun e w' => e = .returned (.tuple #[.pointer (some ⟨x.pos, i, none⟩), .int .i64 0]) ∧ Below w.heap.size w w' := by
  have hlen := (h.span x (find_mem hx).1).2.2.1
  go_enter Tryz.func63, Tryz.ntmps63
  go_wp2_with fail
  refine (block_hit h hx).mono ?_; rintro e w1 ⟨rfl, hb1⟩
  go_wp2_with fail
  go_ret2
  exact ⟨rfl, Below.more_ hb1 _⟩

theorem cell_bad {w : World} {hb : Nat} {S : PHeap} {F : Nat → Prop} (h : HeapIn w hb S F) {b i : Int} (hb0 : 0 ≤ b) (hc : S.code b i ≠ 0) (hf : S.faults < 9223372036854775807) :
    Calls Tryz.prog 63 #[.pointer (some ⟨hb, 0, none⟩), .int .u64 b, .int .i64 i] w fun e w' => e = .returned (.tuple #[.pointer none, .int .i64 (S.code b i)]) ∧ Turned F hb S.fault w w' := by
  cases hx : S.find b with
  | none =>
    have hm := miss_le S b
    rw [code_miss hx]
    clear hc
    go_enter Tryz.func63, Tryz.ntmps63
    go_wp2_with fail
    refine (block_miss h hb0 hx hf).mono ?_; rintro e w1 ⟨rfl, h1, hc1⟩
    go_wp2_with fail
    go_ret2
    exact ⟨rfl, Turned.more ⟨h1, hc1⟩ (Below.more_ (Below.refl _ _) _)⟩
  | some x =>
    have hi : ¬ (0 ≤ i ∧ i < x.cells.length) := fun hi => hc (code_hit hx hi)
    rw [code_out hx hi]
    clear hc
    have hlen := (h.span x (find_mem hx).1).2.2.1
    have hf0 := h.faults0
    go_enter Tryz.func63, Tryz.ntmps63
    go_wp2_with fail
    refine (block_hit h hx).mono ?_; rintro e w1 ⟨rfl, hb1⟩
    have h1 := h.below hb1
    obtain ⟨mo, hm1, _⟩ := h1.look b
    have hlt := h1.own _ h1.hF
    by_cases hneg : i < 0
    all_goals
      go_wp2_with fail
      refine (wrong_any hb 18 S.faults _ _ (hm1.alloc _) rfl (by omega)).mono ?_; rintro e w2 ⟨rfl, rfl⟩
      go_wp2_with fail
      go_ret2
      refine ⟨rfl, Turned.after h.own hb1 (h1.faulted hm1 ?_ (Blk.eq_cs (cs := (heapCells mo S).setIfInBounds 3 (.int .i64 (S.faults + 1))) ?_ rfl))⟩
      · (repeat first | exact Chg.refl _ _ | assumption | refine Chg.drew ?_ | refine Chg.drewN ?_ _ | refine Chg.alloc ?_ _ | refine Chg.setCell ?_ (by first | (left; rfl) | (left; assumption) | (right; exact Nat.le_refl _) | (right; simp; done) | (right; simp; omega)) _ | refine Chg.setBlock ?_ (by first | (left; rfl) | (left; assumption) | (right; exact Nat.le_refl _) | (right; simp; done) | (right; simp; omega)) _)
      · (repeat first | exact hm1 | refine Blk.drew ?_ | refine Blk.drewN ?_ _ | refine Blk.alloc ?_ _ | refine Blk.set_ ?_ _ _ | refine Blk.far ?_ (by simp; omega) _ | refine Blk.setb ?_ (by omega) _)

def PHeap.set (S : PHeap) (b : Int) (i : Nat) (v : Int) : PHeap := { S with blocks := S.blocks.map fun x => if x.key = b then { x with cells := x.cells.set i v } else x }
theorem set_ents (S : PHeap) (b : Int) (i : Nat) (v : Int) : (S.set b i v).ents = S.ents := by
  unfold PHeap.ents PHeap.set
  simp only [List.map_map]
  apply List.map_congr_left
  intro x _
  simp only [Function.comp]
  split <;> simp [PBlk.val, PBlk.pos, PBlk.cap]
theorem eq_of_key {l : List PBlk} (h : (l.map (·.key)).Nodup) {x y : PBlk} (hx : x ∈ l) (hy : y ∈ l) (he : x.key = y.key) : x = y := by
  induction l with
  | nil => cases hx
  | cons a l ih =>
    simp only [List.map_cons, List.nodup_cons] at h
    rcases List.mem_cons.1 hx with rfl | hx' <;> rcases List.mem_cons.1 hy with rfl | hy'
    · rfl
    · exact absurd (List.mem_map.2 ⟨y, hy', he.symm⟩) h.1
    · exact absurd (List.mem_map.2 ⟨x, hx', he⟩) h.1
    · exact ih h.2 hx' hy'
theorem HeapIn.stored {w w' : World} {hb : Nat} {S : PHeap} {F : Nat → Prop} (h : HeapIn w hb S F) {b : Int} {x : PBlk} (hx : S.find b = some x) (i : Nat) (v : Int) (hv : 0 ≤ v ∧ v ≤ 18446744073709551615) (hne : x.cells ≠ [])
    (hc : Chg (fun k => k = x.pos) w w') (hB : ∃ xs : List Value, Blk w' x.pos 22 ((x.cells.set i v).map (Value.int .u64) ++ xs).toArray) : Turned F hb (S.set b i v) w w' := by
  obtain ⟨hxm, hxk⟩ := find_mem hx
  have hk : ∀ k, F k → k ≠ x.pos → w'.heap[k]? = w.heap[k]? := fun k hk hn => hc.block k (h.own k hk) hn
  obtain ⟨mo, hm1, hm2⟩ := h.m
  obtain ⟨hxF, xs, hxB⟩ := h.rows x hxm hne
  refine ⟨⟨h.own.nw hc.size, .inl h.hF, ⟨mo, (show Blk w' hb _ (heapCells mo S) from hm1.keep (hk _ h.hF (Blk.ne_ hm1 hxB (by decide)))), ?_⟩, ?_, ?_, ?_, ?_, h.last0, h.faults0⟩, hc.mono fun k hk => hk ▸ hxF⟩
  · rcases hm2 with ⟨h1, h2, h3⟩ | ⟨m, h1, h2, h3⟩
    · rw [h2] at hxm
      cases hxm
    · exact .inr ⟨m, h1, .inl h2, by rw [set_ents]; exact h3.keep (hk _ h2 (h3.ne_blk hxB))⟩
  · intro y hy hyn
    obtain ⟨z, hz, rfl⟩ := List.mem_map.1 hy
    by_cases hzb : z.key = b
    · have : z = x := by
        have := h.keys
        exact eq_of_key this hz hxm (hzb.trans hxk.symm)
      subst this
      rw [if_pos hzb]
      exact ⟨.inl hxF, hB⟩
    · rw [if_neg hzb] at hyn ⊢
      exact ⟨.inl (h.rows z hz hyn).1, (h.rows z hz hyn).2.imp fun xs hx => hx.keep (hk _ (h.rows z hz hyn).1 fun he => hzb ((h.apart z hz x hxm hyn hne he).trans hxk))⟩
  · intro y1 hy1 y2 hy2 hn1 hn2 he
    obtain ⟨z1, hz1, rfl⟩ := List.mem_map.1 hy1
    obtain ⟨z2, hz2, rfl⟩ := List.mem_map.1 hy2
    have k1 : (if z1.key = b then { z1 with cells := z1.cells.set i v } else z1 : PBlk).key = z1.key ∧ (if z1.key = b then { z1 with cells := z1.cells.set i v } else z1 : PBlk).pos = z1.pos ∧ ((if z1.key = b then { z1 with cells := z1.cells.set i v } else z1 : PBlk).cells ≠ [] → z1.cells ≠ []) := by
      split
      · exact ⟨rfl, rfl, fun h h' => h (by show z1.cells.set i v = []; rw [h']; rfl)⟩
      · exact ⟨rfl, rfl, id⟩
    have k2 : (if z2.key = b then { z2 with cells := z2.cells.set i v } else z2 : PBlk).key = z2.key ∧ (if z2.key = b then { z2 with cells := z2.cells.set i v } else z2 : PBlk).pos = z2.pos ∧ ((if z2.key = b then { z2 with cells := z2.cells.set i v } else z2 : PBlk).cells ≠ [] → z2.cells ≠ []) := by
      split
      · exact ⟨rfl, rfl, fun h h' => h (by show z2.cells.set i v = []; rw [h']; rfl)⟩
      · exact ⟨rfl, rfl, id⟩
    rw [k1.1, k2.1]
    exact h.apart z1 hz1 z2 hz2 (k1.2.2 hn1) (k2.2.2 hn2) (by rw [← k1.2.1, ← k2.2.1]; exact he)
  · have : (S.set b i v).blocks.map (·.key) = S.blocks.map (·.key) := by
      simp only [PHeap.set, List.map_map]
      apply List.map_congr_left
      intro y _
      simp only [Function.comp]
      split <;> rfl
    rw [this]
    exact h.keys
  · intro y hy
    obtain ⟨z, hz, rfl⟩ := List.mem_map.1 hy
    have := h.span z hz
    split
    · refine ⟨this.1, this.2.1, by simpa using this.2.2.1, fun u hu => ?_⟩
      rcases List.mem_or_eq_of_mem_set hu with h1 | h1
      · exact this.2.2.2 u h1
      · subst h1; exact hv
    · exact this
end Go.Proofs.YtmlnhjfdhjachaaGreat

/-
  The heap's methods: Store, Bump, Load, Swap, Words. No condition.
-/
namespace Go.Proofs.YtmlnhjfdhjachaaGreat
set_option linter.unusedVariables false
open Go.ChangeShapes Go.WideShapes Go.ChangeAt Go.RowKit
open Go.ChangeMaps (setBlock)

def PBlk.nth (x : PBlk) (i : Nat) : Int := x.cells.getD i 0
theorem set_arr (l : List Int) (xs : List Value) (i : Nat) (hi : i < l.length) (v : Int) : (l.map (Value.int .u64) ++ xs).toArray.setIfInBounds i (.int .u64 v) = ((l.set i v).map (Value.int .u64) ++ xs).toArray := by
  simp [List.map_set, List.set_append_left, hi]
theorem cell_at {w : World} {hb : Nat} {S : PHeap} {F : Nat → Prop} (h : HeapIn w hb S F) {b : Int} {x : PBlk} (hx : S.find b = some x) {i : Nat} (hi : i < x.cells.length) :
    w.cell? ⟨x.pos, i, none⟩ = some (.int .u64 (x.nth i)) ∧ w.frozen? ⟨x.pos, i, none⟩ = false ∧ x.pos < w.heap.size ∧ 0 ≤ x.nth i ∧ x.nth i ≤ 18446744073709551615 := by
  obtain ⟨hr1, xs, hr2⟩ := h.rows x (find_mem hx).1 (fun e => by rw [e] at hi; simp at hi)
  have hs := (h.span x (find_mem hx).1).2.2.2 (x.nth i) (by simp [PBlk.nth, List.getD, hi])
  exact ⟨by rw [hr2.cell i]; simp [PBlk.nth, hi, List.getD, List.getElem?_append], hr2.frozen i, h.own _ hr1, hs⟩
theorem store_one {w : World} {hb : Nat} {S : PHeap} {F : Nat → Prop} (h : HeapIn w hb S F) {b : Int} {x : PBlk} (hx : S.find b = some x) (i : Nat) (hi : i < x.cells.length) (v : Int) (hv : 0 ≤ v ∧ v ≤ 18446744073709551615) :
    Turned F hb (S.set b i v) w (w.setCell ⟨x.pos, i, none⟩ (.int .u64 v)) := by
  have hne : x.cells ≠ [] := fun e => by rw [e] at hi; simp at hi
  obtain ⟨hr1, xs, hr2⟩ := h.rows x (find_mem hx).1 hne
  exact h.stored hx i v hv hne ((Chg.refl (fun k => k = x.pos) w).setCell (p := ⟨x.pos, i, none⟩) (.inl rfl) _) ⟨xs, (hr2.set_ i _).eq_cs (set_arr _ _ _ hi _)⟩

theorem store_hit {w : World} {hb : Nat} {S : PHeap} {F : Nat → Prop} (h : HeapIn w hb S F) {b v : Int} {x : PBlk} (hx : S.find b = some x) (i : Nat) (hi : i < x.cells.length) (hv : 0 ≤ v ∧ v ≤ 18446744073709551615) :
    Calls Tryz.prog 18 #[.pointer (some ⟨hb, 0, none⟩), .int .u64 b, .int .i64 i, .int .u64 v] w fun e w' => e = .returned (.int .i64 0) ∧ Turned F hb (S.set b i v) w w' := by
  go_enter Tryz.func18, Tryz.ntmps18
  go_wp2_with fail
  refine (cell_hit h hx i hi).mono ?_; rintro e w1 ⟨rfl, hb1⟩
  have h1 := h.below hb1
  obtain ⟨c1, c2, c3, c4, c5⟩ := cell_at h1 hx hi
  go_wp2_with fail
  go_ret
  exact ⟨rfl, Turned.after h.own hb1 (store_one h1 hx i hi v hv)⟩
theorem store_bad {w : World} {hb : Nat} {S : PHeap} {F : Nat → Prop} (h : HeapIn w hb S F) {b i v : Int} (hb0 : 0 ≤ b) (hc : S.code b i ≠ 0) (hf : S.faults < 9223372036854775807) :
    Calls Tryz.prog 18 #[.pointer (some ⟨hb, 0, none⟩), .int .u64 b, .int .i64 i, .int .u64 v] w fun e w' => e = .returned (.int .i64 (S.code b i)) ∧ Turned F hb S.fault w w' := by
  go_enter Tryz.func18, Tryz.ntmps18
  go_wp2_with fail
  refine (cell_bad h hb0 hc hf).mono ?_; rintro e w1 ⟨rfl, t1⟩
  go_wp2_with fail
  go_ret
  exact ⟨rfl, t1⟩

theorem bump_hit {w : World} {hb : Nat} {S : PHeap} {F : Nat → Prop} (h : HeapIn w hb S F) {b v : Int} {x : PBlk} (hx : S.find b = some x) (i : Nat) (hi : i < x.cells.length) (hv : 0 ≤ v ∧ v ≤ 18446744073709551615) :
    Calls Tryz.prog 69 #[.pointer (some ⟨hb, 0, none⟩), .int .u64 b, .int .i64 i, .int .u64 v] w fun e w' => e = .returned (.tuple #[.int .u64 (x.nth i), .int .i64 0]) ∧
      Turned F hb (S.set b i (IntKind.u64.wrap (x.nth i + v))) w w' := by
  have hw : ∀ n : Int, 0 ≤ IntKind.u64.wrap n ∧ IntKind.u64.wrap n ≤ 18446744073709551615 := fun n => by rw [IntKind.wrap_u64]; omega
  go_enter Tryz.func69, Tryz.ntmps69
  go_wp2_with fail
  refine (cell_hit h hx i hi).mono ?_; rintro e w1 ⟨rfl, hb1⟩
  have h1 := h.below hb1
  obtain ⟨c1, c2, c3, c4, c5⟩ := cell_at h1 hx hi
  go_wp2_with fail
  go_ret2
  exact ⟨rfl, Turned.after h.own hb1 (store_one h1 hx i hi _ (hw _))⟩
theorem bump_bad {w : World} {hb : Nat} {S : PHeap} {F : Nat → Prop} (h : HeapIn w hb S F) {b i v : Int} (hb0 : 0 ≤ b) (hc : S.code b i ≠ 0) (hf : S.faults < 9223372036854775807) :
    Calls Tryz.prog 69 #[.pointer (some ⟨hb, 0, none⟩), .int .u64 b, .int .i64 i, .int .u64 v] w fun e w' => e = .returned (.tuple #[.int .u64 0, .int .i64 (S.code b i)]) ∧ Turned F hb S.fault w w' := by
  go_enter Tryz.func69, Tryz.ntmps69
  go_wp2_with fail
  refine (cell_bad h hb0 hc hf).mono ?_; rintro e w1 ⟨rfl, t1⟩
  go_wp2_with fail
  go_ret2
  exact ⟨rfl, t1⟩

theorem set_self {S : PHeap} {b : Int} {x : PBlk} (hk : (S.blocks.map (·.key)).Nodup) (hx : S.find b = some x) (i : Nat) : S.set b i (x.nth i) = S := by
  unfold PHeap.set
  have : (S.blocks.map fun y => if y.key = b then { y with cells := y.cells.set i (x.nth i) } else y) = S.blocks := by
    conv => rhs; rw [← List.map_id S.blocks]
    apply List.map_congr_left
    intro y hy
    split
    · rename_i hyb
      have : y = x := eq_of_key hk hy (find_mem hx).1 (hyb.trans (find_mem hx).2.symm)
      subst this
      have : y.cells.set i (y.nth i) = y.cells := by
        apply List.ext_getElem?
        intro j
        rw [List.getElem?_set]
        split
        · rename_i he
          subst he
          split
          · rename_i hl
            simp [PBlk.nth, List.getD, hl]
          · rename_i hl
            simp at hl
            simp [hl]
        · rfl
      rw [this]
      rfl
    · rfl
  rw [this]

theorem load_hit {w : World} {hb : Nat} {S : PHeap} {F : Nat → Prop} (h : HeapIn w hb S F) {b : Int} {x : PBlk} (hx : S.find b = some x) (i : Nat) (hi : i < x.cells.length) :
    Calls Tryz.prog 27 #[.pointer (some ⟨hb, 0, none⟩), .int .u64 b, .int .i64 i] w fun e w' => e = .returned (.tuple #[.int .u64 (x.nth i), .int .i64 0]) ∧ Turned F hb S w w' := by
  obtain ⟨_, _, _, c4, c5⟩ := cell_at h hx hi
  have e1 : S.set b i (IntKind.u64.wrap (x.nth i + 0)) = S := by
    rw [IntKind.wrap_u64, show (x.nth i + 0) % 18446744073709551616 = x.nth i by omega]
    exact set_self h.keys hx i
  go_enter Tryz.func27, Tryz.ntmps27
  go_wp2_with fail
  refine (bump_hit h hx i hi (by omega)).mono ?_; rintro e w1 ⟨rfl, t1⟩
  rw [e1] at t1
  clear e1
  go_wp2_with fail
  go_ret2
  exact ⟨rfl, t1⟩
theorem load_bad {w : World} {hb : Nat} {S : PHeap} {F : Nat → Prop} (h : HeapIn w hb S F) {b i : Int} (hb0 : 0 ≤ b) (hc : S.code b i ≠ 0) (hf : S.faults < 9223372036854775807) :
    Calls Tryz.prog 27 #[.pointer (some ⟨hb, 0, none⟩), .int .u64 b, .int .i64 i] w fun e w' => e = .returned (.tuple #[.int .u64 0, .int .i64 (S.code b i)]) ∧ Turned F hb S.fault w w' := by
  go_enter Tryz.func27, Tryz.ntmps27
  go_wp2_with fail
  refine (bump_bad h hb0 hc hf).mono ?_; rintro e w1 ⟨rfl, t1⟩
  go_wp2_with fail
  go_ret2
  exact ⟨rfl, t1⟩

theorem swap_hit {w : World} {hb : Nat} {S : PHeap} {F : Nat → Prop} (h : HeapIn w hb S F) {b old v : Int} {x : PBlk} (hx : S.find b = some x) (i : Nat) (hi : i < x.cells.length) (hv : 0 ≤ v ∧ v ≤ 18446744073709551615) :
    Calls Tryz.prog 99 #[.pointer (some ⟨hb, 0, none⟩), .int .u64 b, .int .i64 i, .int .u64 old, .int .u64 v] w fun e w' => e = .returned (.tuple #[.int .u64 (x.nth i), .int .i64 0]) ∧
      Turned F hb (if x.nth i = old then S.set b i v else S) w w' := by
  by_cases he : x.nth i = old
  · rw [if_pos he]
    subst he
    go_enter Tryz.func99, Tryz.ntmps99
    go_wp2_with fail
    refine (cell_hit h hx i hi).mono ?_; rintro e w1 ⟨rfl, hb1⟩
    have h1 := h.below hb1
    obtain ⟨c1, c2, c3, c4, c5⟩ := cell_at h1 hx hi
    go_wp2_with fail
    go_ret2
    exact ⟨rfl, Turned.after h.own hb1 (store_one h1 hx i hi v hv)⟩
  · rw [if_neg he]
    go_enter Tryz.func99, Tryz.ntmps99
    go_wp2_with fail
    refine (cell_hit h hx i hi).mono ?_; rintro e w1 ⟨rfl, hb1⟩
    have h1 := h.below hb1
    obtain ⟨c1, c2, c3, c4, c5⟩ := cell_at h1 hx hi
    go_wp2_with fail
    go_ret2
    exact ⟨rfl, Turned.still h hb1⟩
theorem swap_bad {w : World} {hb : Nat} {S : PHeap} {F : Nat → Prop} (h : HeapIn w hb S F) {b i old v : Int} (hb0 : 0 ≤ b) (hc : S.code b i ≠ 0) (hf : S.faults < 9223372036854775807) :
    Calls Tryz.prog 99 #[.pointer (some ⟨hb, 0, none⟩), .int .u64 b, .int .i64 i, .int .u64 old, .int .u64 v] w fun e w' => e = .returned (.tuple #[.int .u64 0, .int .i64 (S.code b i)]) ∧ Turned F hb S.fault w w' := by
  go_enter Tryz.func99, Tryz.ntmps99
  go_wp2_with fail
  refine (cell_bad h hb0 hc hf).mono ?_; rintro e w1 ⟨rfl, t1⟩
  go_wp2_with fail
  go_ret2
  exact ⟨rfl, t1⟩

theorem words_hit {w : World} {hb : Nat} {S : PHeap} {F : Nat → Prop} (h : HeapIn w hb S F) {b : Int} {x : PBlk} (hx : S.find b = some x) :
    Calls Tryz.prog 100 #[.pointer (some ⟨hb, 0, none⟩), .int .u64 b] w fun e w' => e = .returned (.tuple #[.string x.text, .int .i64 0]) ∧ Below w.heap.size w w' := by
  go_enter Tryz.func100, Tryz.ntmps100
  go_wp2_with fail
  refine (block_hit h hx).mono ?_; rintro e w1 ⟨rfl, hb1⟩
  go_wp2_with fail
  go_ret2
  exact ⟨rfl, Below.more_ hb1 _⟩
theorem words_bad {w : World} {hb : Nat} {S : PHeap} {F : Nat → Prop} (h : HeapIn w hb S F) {b : Int} (hb0 : 0 ≤ b) (hx : S.find b = none) (hf : S.faults < 9223372036854775807) :
    Calls Tryz.prog 100 #[.pointer (some ⟨hb, 0, none⟩), .int .u64 b] w fun e w' => e = .returned (.tuple #[.string ByteArray.empty, .int .i64 (S.miss b)]) ∧ Turned F hb S.fault w w' := by
  have hm := miss_le S b
  go_enter Tryz.func100, Tryz.ntmps100
  go_wp2_with fail
  refine (block_miss h hb0 hx hf).mono ?_; rintro e w1 ⟨rfl, h1, hc1⟩
  go_wp2_with fail
  go_ret2
  exact ⟨rfl, Turned.more ⟨h1, hc1⟩ (Below.more_ (Below.refl _ _) _)⟩
end Go.Proofs.YtmlnhjfdhjachaaGreat

/-
  The heap's methods: New, Drop, Lock, Unlock, Locked, Faults, Size. No condition.
-/
namespace Go.Proofs.YtmlnhjfdhjachaaGreat
set_option linter.unusedVariables false
open Go.ChangeShapes Go.WideShapes Go.ChangeAt Go.RowKit
open Go.ChangeMaps (setBlock)

/-- The heap's own block turns, its map stays: another lock, other faults. -/
theorem HeapIn.headed {w w' : World} {hb : Nat} {S : PHeap} {F : Nat → Prop} {mo : Option Nat} {l : Bool} {f : Int} (h : HeapIn w hb S F) (hm : Blk w hb 136 (heapCells mo S)) (hf : 0 ≤ f) (hc : Chg (fun k => k = hb) w w')
    (hB : Blk w' hb 136 (heapCells mo { S with locked := l, faults := f })) : Turned F hb { S with locked := l, faults := f } w w' := by
  have hk : ∀ k, F k → k ≠ hb → w'.heap[k]? = w.heap[k]? := fun k hk hn => hc.block k (h.own k hk) hn
  obtain ⟨mo', hm1, hm2⟩ := h.m
  have e : mo' = mo := by
    unfold Blk at hm1 hm
    rw [hm] at hm1
    simp only [heapCells, Option.some.injEq, Obj.cells.injEq, Array.mk.injEq, List.cons.injEq, Value.map.injEq] at hm1
    exact hm1.1.1.symm
  subst e
  refine ⟨⟨h.own.nw hc.size, .inl h.hF, ⟨mo', hB, ?_⟩, fun b hb' hne => ⟨.inl (h.rows b hb' hne).1, (h.rows b hb' hne).2.imp fun xs hx => hx.keep (hk _ (h.rows b hb' hne).1 (Blk.ne_ hx hm1 (by decide)))⟩, h.apart, h.keys, h.span, h.last0, hf⟩, hc.mono fun i hi => hi ▸ h.hF⟩
  · rcases hm2 with h1 | ⟨m, h1, h2, h3⟩
    · exact .inl h1
    · exact .inr ⟨m, h1, .inl h2, h3.keep (hk _ h2 (h3.ne_blk hm1))⟩

theorem faults_any {w : World} {hb : Nat} {S : PHeap} {F : Nat → Prop} (h : HeapIn w hb S F) :
    Calls Tryz.prog 30 #[.pointer (some ⟨hb, 0, none⟩)] w fun e w' => e = .returned (.int .i64 S.faults) ∧ w = w' := by
  obtain ⟨mo, hm1, _⟩ := h.m
  have c3 : w.cell? ⟨hb, 3, none⟩ = some (.int .i64 S.faults) := hm1.cell 3
  go_enter Tryz.func30, Tryz.ntmps30
  go_wp2_with fail
  go_ret
  exact ⟨rfl, rfl⟩
theorem locked_any {w : World} {hb : Nat} {S : PHeap} {F : Nat → Prop} (h : HeapIn w hb S F) :
    Calls Tryz.prog 97 #[.pointer (some ⟨hb, 0, none⟩)] w fun e w' => e = .returned (.bool S.locked) ∧ w = w' := by
  obtain ⟨mo, hm1, _⟩ := h.m
  have c2 : w.cell? ⟨hb, 2, none⟩ = some (.bool S.locked) := hm1.cell 2
  go_enter Tryz.func97, Tryz.ntmps97
  go_wp2_with fail
  go_ret
  exact ⟨rfl, rfl⟩
theorem lock_free {w : World} {hb : Nat} {S : PHeap} {F : Nat → Prop} (h : HeapIn w hb S F) (hl : S.locked = false) :
    Calls Tryz.prog 102 #[.pointer (some ⟨hb, 0, none⟩)] w fun e w' => e = .returned (.bool true) ∧ Turned F hb { S with locked := true } w w' := by
  obtain ⟨mo, hm1, _⟩ := h.m
  have c2 : w.cell? ⟨hb, 2, none⟩ = some (.bool false) := by rw [hm1.cell 2]; simp [heapCells, hl]
  have f2 := hm1.frozen 2
  clear hl
  go_enter Tryz.func102, Tryz.ntmps102
  go_wp2_with fail
  go_ret
  refine ⟨rfl, h.headed (f := S.faults) hm1 h.faults0 ?_ (Blk.eq_cs (cs := (heapCells mo S).setIfInBounds 2 (.bool true)) ?_ rfl)⟩
  · (repeat first | exact Chg.refl _ _ | assumption | refine Chg.drew ?_ | refine Chg.drewN ?_ _ | refine Chg.alloc ?_ _ | refine Chg.setCell ?_ (by first | (left; rfl) | (left; assumption) | (right; exact Nat.le_refl _) | (right; simp; done) | (right; simp; omega)) _ | refine Chg.setBlock ?_ (by first | (left; rfl) | (left; assumption) | (right; exact Nat.le_refl _) | (right; simp; done) | (right; simp; omega)) _)
  · (repeat first | exact hm1 | refine Blk.drew ?_ | refine Blk.drewN ?_ _ | refine Blk.alloc ?_ _ | refine Blk.set_ ?_ _ _ | refine Blk.far ?_ (by simp; omega) _ | refine Blk.setb ?_ (by omega) _)
theorem lock_taken {w : World} {hb : Nat} {S : PHeap} {F : Nat → Prop} (h : HeapIn w hb S F) (hl : S.locked = true) :
    Calls Tryz.prog 102 #[.pointer (some ⟨hb, 0, none⟩)] w fun e w' => e = .returned (.bool false) ∧ w = w' := by
  obtain ⟨mo, hm1, _⟩ := h.m
  have c2 : w.cell? ⟨hb, 2, none⟩ = some (.bool true) := by rw [hm1.cell 2]; simp [heapCells, hl]
  clear hl
  go_enter Tryz.func102, Tryz.ntmps102
  go_wp2_with fail
  go_ret
  exact ⟨rfl, rfl⟩
theorem unlock_free {w : World} {hb : Nat} {S : PHeap} {F : Nat → Prop} (h : HeapIn w hb S F) (hl : S.locked = false) (hf : S.faults < 9223372036854775807) :
    Calls Tryz.prog 103 #[.pointer (some ⟨hb, 0, none⟩)] w fun e w' => e = .returned (.bool false) ∧ Turned F hb S.fault w w' := by
  obtain ⟨mo, hm1, _⟩ := h.m
  have c2 : w.cell? ⟨hb, 2, none⟩ = some (.bool false) := by rw [hm1.cell 2]; simp [heapCells, hl]
  have c3 : w.cell? ⟨hb, 3, none⟩ = some (.int .i64 S.faults) := hm1.cell 3
  have f3 := hm1.frozen 3
  have hf0 := h.faults0
  clear hl
  go_enter Tryz.func103, Tryz.ntmps103
  go_wp2_with fail
  go_ret
  refine ⟨rfl, h.headed (f := S.faults + 1) (l := S.locked) hm1 (by omega) ?_ (Blk.eq_cs (cs := (heapCells mo S).setIfInBounds 3 (.int .i64 (S.faults + 1))) ?_ rfl)⟩
  · (repeat first | exact Chg.refl _ _ | assumption | refine Chg.drew ?_ | refine Chg.drewN ?_ _ | refine Chg.alloc ?_ _ | refine Chg.setCell ?_ (by first | (left; rfl) | (left; assumption) | (right; exact Nat.le_refl _) | (right; simp; done) | (right; simp; omega)) _ | refine Chg.setBlock ?_ (by first | (left; rfl) | (left; assumption) | (right; exact Nat.le_refl _) | (right; simp; done) | (right; simp; omega)) _)
  · (repeat first | exact hm1 | refine Blk.drew ?_ | refine Blk.drewN ?_ _ | refine Blk.alloc ?_ _ | refine Blk.set_ ?_ _ _ | refine Blk.far ?_ (by simp; omega) _ | refine Blk.setb ?_ (by omega) _)
theorem unlock_taken {w : World} {hb : Nat} {S : PHeap} {F : Nat → Prop} (h : HeapIn w hb S F) (hl : S.locked = true) :
    Calls Tryz.prog 103 #[.pointer (some ⟨hb, 0, none⟩)] w fun e w' => e = .returned (.bool true) ∧ Turned F hb { S with locked := false } w w' := by
  obtain ⟨mo, hm1, _⟩ := h.m
  have c2 : w.cell? ⟨hb, 2, none⟩ = some (.bool true) := by rw [hm1.cell 2]; simp [heapCells, hl]
  have f2 := hm1.frozen 2
  clear hl
  go_enter Tryz.func103, Tryz.ntmps103
  go_wp2_with fail
  go_ret
  refine ⟨rfl, h.headed (f := S.faults) hm1 h.faults0 ?_ (Blk.eq_cs (cs := (heapCells mo S).setIfInBounds 2 (.bool false)) ?_ rfl)⟩
  · (repeat first | exact Chg.refl _ _ | assumption | refine Chg.drew ?_ | refine Chg.drewN ?_ _ | refine Chg.alloc ?_ _ | refine Chg.setCell ?_ (by first | (left; rfl) | (left; assumption) | (right; exact Nat.le_refl _) | (right; simp; done) | (right; simp; omega)) _ | refine Chg.setBlock ?_ (by first | (left; rfl) | (left; assumption) | (right; exact Nat.le_refl _) | (right; simp; done) | (right; simp; omega)) _)
  · (repeat first | exact hm1 | refine Blk.drew ?_ | refine Blk.drewN ?_ _ | refine Blk.alloc ?_ _ | refine Blk.set_ ?_ _ _ | refine Blk.far ?_ (by simp; omega) _ | refine Blk.setb ?_ (by omega) _)

theorem new_any (w : World) : Calls Tryz.prog 57 #[] w fun e w' => ∃ hb, e = .returned (.pointer (some ⟨hb, 0, none⟩)) ∧ w.heap.size ≤ hb ∧ HeapIn w' hb ⟨[], 0, false, 0⟩ (nw (fun _ => False) w w') ∧ Below w.heap.size w w' ∧ ∃ m, Blk w' hb 136 (heapCells (some m) ⟨[], 0, false, 0⟩) := by
  have hmm := @run_makeMap Tryz.prog
  obtain ⟨ob, hcl, hmp⟩ := run_clear_map (P := Tryz.prog) (w.alloc (.map #[] 0)) 134 22 172 0 Tryz.underlying134 w.heap.size [] (MapIs.made w)
  have hcl' := fun o => hcl ((w.alloc (.map #[] 0)).alloc o) (Below.heap_alloc _ _ _ (by simp))
  clear hcl
  go_enter Tryz.func57, Tryz.ntmps57
  go_wp2_with fail
  go_ret
  have hsz : ∀ o : Obj, (setBlock ((w.alloc (.map #[] 0)).alloc o) w.heap.size ob).heap.size = w.heap.size + 2 := fun o => by rw [size_setBlock]; simp
  have hB : Blk (setBlock ((w.alloc (.map #[] 0)).alloc (.cells #[.map (some w.heap.size), .int .u64 0, .bool false, .int .i64 0] 136)) w.heap.size ob) (w.heap.size + 1) 136 (heapCells (some w.heap.size) ⟨[], 0, false, 0⟩) := by
    refine Blk.setb ?_ (by omega) _
    have := Blk.new (w.alloc (.map #[] 0)) 136 #[.map (some w.heap.size), .int .u64 0, .bool false, .int .i64 0]
    exact this.eq_cs rfl |> fun h => by simpa [heapCells] using h
  refine ⟨w.heap.size + 1, rfl, by omega, ⟨?_, ?_, ⟨some w.heap.size, hB, .inr ⟨_, rfl, ?_, hmp _ (by simp; omega)⟩⟩, (by simp), (by simp), List.nodup_nil, (by simp), by decide, by decide⟩, ?_, _, hB⟩
  · intro k hk
    rcases hk with h | h
    · exact h.elim
    · exact h.2
  · exact .inr ⟨by omega, by rw [hsz]; omega⟩
  · exact .inr ⟨Nat.le_refl _, by rw [hsz]; omega⟩
  · refine Chg.below (F := fun k => k = w.heap.size) ?_ (fun i hi => by omega) (Nat.le_refl _)
    (repeat first | exact Chg.refl _ _ | assumption | refine Chg.drew ?_ | refine Chg.drewN ?_ _ | refine Chg.alloc ?_ _ | refine Chg.setCell ?_ (by first | (left; rfl) | (left; assumption) | (right; exact Nat.le_refl _) | (right; simp; done) | (right; simp; omega)) _ | refine Chg.setBlock ?_ (by first | (left; rfl) | (left; assumption) | (right; exact Nat.le_refl _) | (right; simp; done) | (right; simp; omega)) _)

theorem fld0 (A : Option Addr) (n c : Nat) (s : ByteArray) (w : World) : (Instr.field 172 (.agg #[.slice A n c, .string s]) 0).run Tryz.prog w = .ok (.slice A n c) w := by kernel_rfl
set_option maxRecDepth 100000 in
theorem size_any {w : World} {hb : Nat} {S : PHeap} {F : Nat → Prop} (h : HeapIn w hb S F) (b : Int) :
    Calls Tryz.prog 98 #[.pointer (some ⟨hb, 0, none⟩), .int .u64 b] w fun e w' => e = .returned (.int .i64 (((S.find b).map fun x => (x.cells.length : Int)).getD 0)) ∧ w = w' := by
  obtain ⟨mo, hm1, hlk⟩ := h.look_ b
  have hl := hlk w (Nat.le_refl _) (fun k hk => rfl)
  have c0 : w.cell? ⟨hb, 0, none⟩ = some (.map mo) := hm1.cell 0
  have hfl := fld0
  cases hx : S.find b with
  | none =>
    simp only [hx, Option.map_none, Option.getD_none, noBlock] at hl
    clear hlk hx
    go_enter Tryz.func98, Tryz.ntmps98
    go_wp2_with fail
    go_ret
    exact ⟨rfl, rfl⟩
  | some x =>
    have hlen := (h.span x (find_mem hx).1).2.2.1
    simp only [hx, Option.map_some, Option.getD_some, PBlk.val] at hl
    clear hlk hx
    go_enter Tryz.func98, Tryz.ntmps98
    go_wp2_with fail
    go_ret
    exact ⟨rfl, rfl⟩

theorem HeapIn.dropped {w w' : World} {hb m : Nat} {S : PHeap} {F : Nat → Prop} {b : Int} (h : HeapIn w hb S F) (hB : Blk w hb 136 (heapCells (some m) S)) (hm : F m) (hc : Chg (fun k => k = m) w w') (hM : MapIs w m S.ents)
    (hM' : MapIs w' m (S.ents.filter fun p => p.1 != b)) : Turned F hb { S with blocks := S.blocks.filter fun y => y.key != b } w w' := by
  have hk : ∀ k, F k → k ≠ m → w'.heap[k]? = w.heap[k]? := fun k hk hn => hc.block k (h.own k hk) hn
  have hsub : (S.blocks.filter fun y => y.key != b).Sublist S.blocks := List.filter_sublist
  refine ⟨⟨h.own.nw hc.size, .inl h.hF, ⟨some m, (show Blk w' hb _ (heapCells (some m) S) from hB.keep (hk _ h.hF fun e => hM.ne_blk hB e.symm)), .inr ⟨m, rfl, .inl hm, ?_⟩⟩, fun y hy hne => ?_, ?_, ?_, fun y hy => h.span y (hsub.subset hy), h.last0, h.faults0⟩, hc.mono fun i hi => hi ▸ hm⟩
  · have : PHeap.ents { S with blocks := S.blocks.filter fun y => y.key != b } = S.ents.filter fun p => p.1 != b := by
      simp [PHeap.ents, List.filter_map, Function.comp_def]
    rw [this]
    exact hM'
  · obtain ⟨h1, xs, h2⟩ := h.rows y (hsub.subset hy) hne
    exact ⟨.inl h1, xs, h2.keep (hk _ h1 fun e => hM.ne_blk h2 e.symm)⟩
  · exact fun x hx y hy => h.apart x (hsub.subset hx) y (hsub.subset hy)
  · exact (hsub.map _).nodup h.keys

theorem drop_hit {w : World} {hb : Nat} {S : PHeap} {F : Nat → Prop} (h : HeapIn w hb S F) {b : Int} {x : PBlk} (hx : S.find b = some x) :
    Calls Tryz.prog 101 #[.pointer (some ⟨hb, 0, none⟩), .int .u64 b] w fun e w' => e = .returned (.int .i64 0) ∧ Turned F hb { S with blocks := S.blocks.filter fun y => y.key != b } w w' := by
  have hkn : (S.ents.map (·.1)).Nodup := by simpa [PHeap.ents, List.map_map, Function.comp_def] using h.keys
  go_enter Tryz.func101, Tryz.ntmps101
  go_wp2_with fail
  refine (block_hit h hx).mono ?_; rintro e w1 ⟨rfl, hb1⟩
  have h1 := h.below hb1
  obtain ⟨mo, hm1, hm2⟩ := h1.m
  rcases hm2 with ⟨_, h2, _⟩ | ⟨m, rfl, h2, h3⟩
  · have := (find_mem hx).1
    rw [h2] at this
    cases this
  · have hc0 := fun o => (hm1.alloc o).cell 0
    simp only [heapCells] at hc0
    obtain ⟨ob, hdl, hmp⟩ := run_del (P := Tryz.prog) w1 134 22 172 0 Tryz.underlying134 Tryz.underlying22 m S.ents h3 hkn b
    have hdl' := fun o => hdl (w1.alloc o) (Below.heap_alloc _ _ _ h3.lt)
    clear hdl
    have hmlt := h3.lt
    go_wp2_with fail
    go_ret
    refine ⟨rfl, Turned.after h.own hb1 (h1.dropped hm1 h2 ?_ h3 (hmp _ (by simp; omega)))⟩
    (repeat first | exact Chg.refl _ _ | assumption | refine Chg.drew ?_ | refine Chg.drewN ?_ _ | refine Chg.alloc ?_ _ | refine Chg.setCell ?_ (by first | (left; rfl) | (left; assumption) | (right; exact Nat.le_refl _) | (right; simp; done) | (right; simp; omega)) _ | refine Chg.setBlock ?_ (by first | (left; rfl) | (left; assumption) | (right; exact Nat.le_refl _) | (right; simp; done) | (right; simp; omega)) _)
theorem drop_bad {w : World} {hb : Nat} {S : PHeap} {F : Nat → Prop} (h : HeapIn w hb S F) {b : Int} (hb0 : 0 ≤ b) (hx : S.find b = none) (hf : S.faults < 9223372036854775807) :
    Calls Tryz.prog 101 #[.pointer (some ⟨hb, 0, none⟩), .int .u64 b] w fun e w' => e = .returned (.int .i64 (S.miss b)) ∧ Turned F hb S.fault w w' := by
  have hm := miss_le S b
  go_enter Tryz.func101, Tryz.ntmps101
  go_wp2_with fail
  refine (block_miss h hb0 hx hf).mono ?_; rintro e w1 ⟨rfl, h1, hc1⟩
  go_wp2_with fail
  go_ret
  exact ⟨rfl, Turned.more ⟨h1, hc1⟩ (Below.more_ (Below.refl _ _) _)⟩
end Go.Proofs.YtmlnhjfdhjachaaGreat

/-
  The heap's method Make. No condition.
-/
namespace Go.Proofs.YtmlnhjfdhjachaaGreat
set_option linter.unusedVariables false
open Go.ChangeShapes Go.WideShapes Go.ChangeAt Go.RowKit
open Go.ChangeMaps (setBlock)

theorem info34 : (Tryz.prog.info? 22).map (fun i => (i.zero, i.size, i.bytes)) = some (some (.int .u64 0), 1, 8) := by kernel_rfl
theorem look_new {w : World} {hb : Nat} {S : PHeap} {F : Nat → Prop} (h : HeapIn w hb S F) : look S.ents (S.last + 1) = none := by
  rw [look_ents]
  have : S.find (S.last + 1) = none := by
    unfold PHeap.find
    rw [List.find?_eq_none]
    intro x hx
    have := (h.span x hx).2.1
    simp
    omega
  rw [this]
  rfl
theorem made_zero (n : Nat) : madeCells #[.int .u64 0] n = ((List.replicate n (0 : Int)).map (Value.int .u64)).toArray := by
  apply Array.ext'
  rw [toList_madeCells_one]
  simp
theorem HeapIn.made {w w' : World} {hb m r n : Nat} {s : ByteArray} {S : PHeap} {F : Nat → Prop} (h : HeapIn w hb S F) (hn : n ≤ 256) (hm : F m ∨ (w.heap.size ≤ m ∧ m < w'.heap.size)) (hmr : ∀ b ∈ S.blocks, b.cells ≠ [] → b.pos ≠ m) (hr : w.heap.size ≤ r ∧ r < w'.heap.size) (hc : Chg (fun k => k = hb ∨ k = m) w w')
    (hB : Blk w' hb 136 (heapCells (some m) { S with blocks := S.blocks ++ [⟨S.last + 1, rowAt r 0, List.replicate n 0, s⟩], last := S.last + 1 }))
    (hM : MapIs w' m (PHeap.ents { S with blocks := S.blocks ++ [⟨S.last + 1, rowAt r 0, List.replicate n 0, s⟩], last := S.last + 1 })) (hR : Blk w' r 22 ((List.replicate n (0 : Int)).map (Value.int .u64)).toArray) (hBw : ∃ cs, Blk w hb 136 cs) :
    Turned F hb { S with blocks := S.blocks ++ [⟨S.last + 1, rowAt r 0, List.replicate n 0, s⟩], last := S.last + 1 } w w' := by
  have hl0 := h.last0
  obtain ⟨cs, hBw⟩ := hBw
  refine ⟨⟨h.own.nw hc.size, .inl h.hF, ⟨some m, hB, .inr ⟨m, rfl, hm, hM⟩⟩, fun y hy hne => ?_, ?_, ?_, fun y hy => ?_, by show 0 ≤ S.last + 1; omega, h.faults0⟩, ⟨hc.os, hc.tape, hc.output, hc.size, fun k hk hn => hc.block k hk fun e => ?_⟩⟩
  · rcases List.mem_append.1 hy with h1 | h1
    · obtain ⟨h2, xs, h3⟩ := h.rows y h1 hne
      refine ⟨.inl h2, xs, h3.keep (hc.block _ (h.own _ h2) fun e => ?_)⟩
      rcases e with e | e
      · exact Blk.ne_ h3 hBw (by decide) e
      · exact hmr y h1 hne e
    · simp only [List.mem_singleton] at h1
      subst h1
      rw [(pos_rowAt _ r 0 (by omega) _ _).1]
      exact ⟨.inr hr, [], by rw [List.append_nil]; exact hR⟩
  · intro x hx y hy hnx hny he
    have hp : (⟨S.last + 1, rowAt r 0, List.replicate n 0, s⟩ : PBlk).pos = r := (pos_rowAt _ r 0 (by omega) _ _).1
    rcases List.mem_append.1 hx with h1 | h1 <;> rcases List.mem_append.1 hy with h2 | h2
    · exact h.apart x h1 y h2 hnx hny he
    · simp only [List.mem_singleton] at h2
      subst h2
      rw [hp] at he
      have := h.own _ (h.rows x h1 hnx).1
      omega
    · simp only [List.mem_singleton] at h1
      subst h1
      rw [hp] at he
      have := h.own _ (h.rows y h2 hny).1
      omega
    · simp only [List.mem_singleton] at h1 h2
      rw [h1, h2]
  · show ((S.blocks ++ [(⟨S.last + 1, rowAt r 0, List.replicate n 0, s⟩ : PBlk)]).map (·.key)).Nodup
    rw [List.map_append, List.nodup_append]
    refine ⟨h.keys, by simp, fun a ha b hb' => ?_⟩
    simp only [List.map_cons, List.map_nil, List.mem_singleton] at hb'
    subst hb'
    obtain ⟨y, hy, rfl⟩ := List.mem_map.1 ha
    have := (h.span y hy).2.1
    show y.key ≠ S.last + 1
    omega
  · rcases List.mem_append.1 hy with h1 | h1
    · obtain ⟨a, b, c⟩ := h.span y h1
      exact ⟨a, by show y.key ≤ S.last + 1; omega, c⟩
    · simp only [List.mem_singleton] at h1
      subst h1
      refine ⟨by show 1 ≤ S.last + 1; omega, Int.le_refl _, by simpa using hn, fun z hz => ?_⟩
      have := List.eq_of_mem_replicate hz
      omega
  · rcases e with e | e
    · exact hn (e ▸ h.hF)
    · rcases hm with h1 | h1
      · exact hn (e ▸ h1)
      · omega
set_option maxRecDepth 100000 in
theorem make_any {w : World} {hb : Nat} {S : PHeap} {F : Nat → Prop} (h : HeapIn w hb S F) (n : Nat) (hn : n ≤ 256) (s : ByteArray) (hl : S.last < 9223372036854775807) :
    Calls Tryz.prog 58 #[.pointer (some ⟨hb, 0, none⟩), .int .i64 n, .string s] w fun e w' => e = .returned (.int .u64 (S.last + 1)) ∧
      ∃ r, Turned F hb { S with blocks := S.blocks ++ [⟨S.last + 1, r, List.replicate n 0, s⟩], last := S.last + 1 } w w' := by
  obtain ⟨i0, hi, hz0, hz1, hz2⟩ := info_parts info34
  have hmk := fun W => run_make_rowN (P := Tryz.prog) 69 22 i0 (.int .u64 0) Tryz.underlying69 hi hz0 .i64 .i64 n n (Nat.le_refl _) (by rw [hz2]; omega) (by omega) W
  rw [hz1] at hmk
  clear hi hz0 hz1 hz2
  have hmt := fun w r => run_eql_map_nil (P := Tryz.prog) w 134 22 172 r Tryz.underlying134
  have hl0 := h.last0
  have hlt := h.own _ h.hF
  obtain ⟨mo, hm1, hm2⟩ := h.m
  rcases hm2 with ⟨rfl, h2, h3⟩ | ⟨m, rfl, h2, h3⟩
  · have c0 : w.cell? ⟨hb, 0, none⟩ = some (.map none) := hm1.cell 0
    have c1 : w.cell? ⟨hb, 1, none⟩ = some (.int .u64 S.last) := hm1.cell 1
    have f0 := hm1.frozen 0
    have f1 := hm1.frozen 1
    have hmm := @run_makeMap Tryz.prog
    have hS : S.ents = [] := by unfold PHeap.ents; rw [h2]; rfl
    obtain ⟨ob, hpt, hmp⟩ := run_put (P := Tryz.prog) (w.alloc (.map #[] 0)) 134 22 172 Tryz.underlying134 Tryz.underlying22 w.heap.size [] (MapIs.made w) (S.last + 1) rfl (PBlk.val ⟨S.last + 1, rowAt (w.heap.size + 1) 0, List.replicate n 0, s⟩)
    simp only [PBlk.val, (pos_rowAt _ (w.heap.size + 1) 0 (by omega) _ _).1, (pos_rowAt _ (w.heap.size + 1) 0 (by omega) _ _).2, List.length_replicate, Nat.add_zero] at hpt
    have hat : ∀ o, (((((w.setCell ⟨hb, 0, none⟩ (.map (some w.heap.size))).setCell ⟨hb, 1, none⟩ (.int .u64 (S.last + 1))).alloc (.map #[] 0)).alloc o).drew).heap[w.heap.size]? = (w.alloc (.map #[] 0)).heap[w.heap.size]? := by
      intro o
      have e1 := Below.heap_alloc (((w.setCell ⟨hb, 0, none⟩ (.map (some w.heap.size))).setCell ⟨hb, 1, none⟩ (.int .u64 (S.last + 1))).alloc (.map #[] 0)) o w.heap.size (by simp)
      have e2 := (MapKept.heap_alloc ((w.setCell ⟨hb, 0, none⟩ (.map (some w.heap.size))).setCell ⟨hb, 1, none⟩ (.int .u64 (S.last + 1))) (.map #[] 0)).1
      rw [size_setCell, size_setCell] at e2
      exact (e1.trans e2).trans (MapKept.heap_alloc w _).1.symm
    have hpt' := fun o => hpt _ (hat o)
    clear hpt hat
    have hcb := fun (W : World) => cell_setBlock W ob ⟨hb, 1, none⟩ (Nat.ne_of_lt hlt)
    rw [h3] at c1 hpt'
    simp only [Int.zero_add] at hpt'
    go_enter Tryz.func58, Tryz.ntmps58
    go_wp2_with fail
    go_region
    go_wp2_with fail
    go_ret
    have e3 : S.last + 1 = 1 := by omega
    refine ⟨by rw [h3]; rfl, rowAt (w.heap.size + 1) 0, h.made (m := w.heap.size) hn (.inr ⟨Nat.le_refl _, by simp [size_setBlock]; omega⟩) (fun y hy _ e => by rw [h2] at hy; cases hy) ⟨by omega, by simp [size_setBlock]⟩ ?_ ?_ ?_ ?_ ⟨_, hm1⟩⟩
    · refine Chg.setBlock (Chg.drew (Chg.alloc (Chg.alloc (Chg.setCell (Chg.setCell (Chg.refl (fun k => k = hb ∨ k = w.heap.size) w) (p := ⟨hb, 0, none⟩) (.inl (.inl rfl)) _) (p := ⟨hb, 1, none⟩) (.inl (.inl rfl)) _) _) _)) (.inl (.inr rfl)) _
    · refine Blk.eq_cs (cs := ((heapCells none S).setIfInBounds 0 (.map (some w.heap.size))).setIfInBounds 1 (.int .u64 1)) ?_ (by simp [heapCells, e3])
      refine Blk.setb (Blk.drew (Blk.alloc (Blk.alloc (Blk.set_ (Blk.set_ hm1 _ _) _ _) _) _)) (Nat.ne_of_lt hlt) _
    · have := hmp (((((w.setCell ⟨hb, 0, none⟩ (.map (some w.heap.size))).setCell ⟨hb, 1, none⟩ (.int .u64 1)).alloc (.map #[] 0)).alloc (.cells (madeCells #[.int .u64 0] n) 22)).drew) (by simp; omega)
      simpa [PHeap.ents, PBlk.val, h2, (pos_rowAt _ (w.heap.size + 1) 0 (by omega) _ _).1, (pos_rowAt _ (w.heap.size + 1) 0 (by omega) _ _).2] using this
    · refine Blk.setb ?_ (by omega) _
      have := Blk.new (((w.setCell ⟨hb, 0, none⟩ (.map (some w.heap.size))).setCell ⟨hb, 1, none⟩ (.int .u64 1)).alloc (.map #[] 0)) 22 (madeCells #[.int .u64 0] n)
      have e4 : (((w.setCell ⟨hb, 0, none⟩ (.map (some w.heap.size))).setCell ⟨hb, 1, none⟩ (.int .u64 1)).alloc (.map #[] 0)).heap.size = w.heap.size + 1 := by simp
      rw [e4] at this
      exact this.eq_cs (made_zero n)
  · have c0 : w.cell? ⟨hb, 0, none⟩ = some (.map (some m)) := hm1.cell 0
    have c1 : w.cell? ⟨hb, 1, none⟩ = some (.int .u64 S.last) := hm1.cell 1
    have f1 := hm1.frozen 1
    have hmlt := h3.lt
    have hne := h3.ne_blk hm1
    obtain ⟨ob, hpt, hmp⟩ := run_put (P := Tryz.prog) w 134 22 172 Tryz.underlying134 Tryz.underlying22 m S.ents h3 (S.last + 1) (look_new h) (PBlk.val ⟨S.last + 1, rowAt w.heap.size 0, List.replicate n 0, s⟩)
    simp only [PBlk.val, (pos_rowAt _ w.heap.size 0 (by omega) _ _).1, (pos_rowAt _ w.heap.size 0 (by omega) _ _).2, List.length_replicate, Nat.add_zero] at hpt
    have hpt' := fun o => hpt (((w.setCell ⟨hb, 1, none⟩ (.int .u64 (S.last + 1))).alloc o).drew) ((Below.heap_alloc _ _ _ (by rw [size_setCell]; exact hmlt)).trans (Below.heap_setCell _ _ _ _ hne))
    clear hpt
    have hcb := fun (W : World) => cell_setBlock W ob ⟨hb, 1, none⟩ (Ne.symm hne)
    go_enter Tryz.func58, Tryz.ntmps58
    go_wp2_with fail
    go_region
    go_wp2_with fail
    go_ret
    refine ⟨rfl, rowAt w.heap.size 0, h.made (m := m) hn (.inl h2) (fun y hy hne e => by obtain ⟨_, xs, hx⟩ := h.rows y hy hne; exact h3.ne_blk hx e.symm) ⟨Nat.le_refl _, by simp [size_setBlock]⟩ ?_ ?_ ?_ ?_ ⟨_, hm1⟩⟩
    · refine Chg.setBlock (Chg.drew (Chg.alloc (Chg.setCell (Chg.refl (fun k => k = hb ∨ k = m) w) (p := ⟨hb, 1, none⟩) (.inl (.inl rfl)) _) _)) (.inl (.inr rfl)) _
    · refine Blk.eq_cs (cs := (heapCells (some m) S).setIfInBounds 1 (.int .u64 (S.last + 1))) ?_ rfl
      refine Blk.setb (Blk.drew (Blk.alloc (Blk.set_ hm1 _ _) _)) (Ne.symm hne) _
    · have := hmp (((w.setCell ⟨hb, 1, none⟩ (.int .u64 (S.last + 1))).alloc (.cells (madeCells #[.int .u64 0] n) 22)).drew) (by simp; omega)
      simpa [PHeap.ents, PBlk.val, (pos_rowAt _ w.heap.size 0 (by omega) _ _).1, (pos_rowAt _ w.heap.size 0 (by omega) _ _).2] using this
    · refine Blk.setb ?_ (by omega) _
      have := Blk.new (w.setCell ⟨hb, 1, none⟩ (.int .u64 (S.last + 1))) 22 (madeCells #[.int .u64 0] n)
      rw [size_setCell] at this
      exact this.eq_cs (made_zero n)
end Go.Proofs.YtmlnhjfdhjachaaGreat

/-
  The heap's methods on no heap; Make of too many cells; Copy and Blocks of a heap without a block. No condition.
-/
namespace Go.Proofs.YtmlnhjfdhjachaaGreat
set_option linter.unusedVariables false
open Go.ChangeShapes Go.WideShapes Go.ChangeAt Go.RowKit
open Go.ChangeMaps (setBlock)

theorem make_bad {w : World} (hb : Nat) (n : Int) (hn : n < 0 ∨ 256 < n) (s : ByteArray) :
    Calls Tryz.prog 58 #[.pointer (some ⟨hb, 0, none⟩), .int .i64 n, .string s] w fun e w' => e = .returned (.int .u64 0) ∧ w = w' := by
  by_cases h0 : n < 0
  · clear hn
    go_enter Tryz.func58, Tryz.ntmps58
    go_wp2
    go_ret
    exact ⟨rfl, rfl⟩
  · have h1 : 256 < n := by omega
    clear hn
    go_enter Tryz.func58, Tryz.ntmps58
    go_wp2
    go_ret
    exact ⟨rfl, rfl⟩

end Go.Proofs.YtmlnhjfdhjachaaGreat

/-
  A heap that the call itself has made, from step to step. No condition.
-/
namespace Go.Proofs.YtmlnhjfdhjachaaGreat
set_option linter.unusedVariables false
open Go.ChangeShapes Go.WideShapes Go.ChangeAt Go.RowKit
open Go.ChangeMaps (setBlock)

/-- A heap S of the call's own, at hb; of what was there in w0 nothing has turned. -/
def Sess (w0 : World) (hb : Nat) (S : PHeap) (w : World) : Prop := ∃ F, HeapIn w hb S F ∧ (∀ k, F k → w0.heap.size ≤ k) ∧ Below w0.heap.size w0 w
section
variable {w0 w w' : World} {hb : Nat} {S S' : PHeap} {f : FuncId} {args : Array Value} {v : Value}
theorem Sess.below (s : Sess w0 hb S w) : Below w0.heap.size w0 w := by
  obtain ⟨_, _, _, h⟩ := s
  exact h
theorem Sess.of (s : Sess w0 hb S w) (c : ∀ F, HeapIn w hb S F → Calls Tryz.prog f args w fun e w' => e = .returned v ∧ Turned F hb S' w w') : Calls Tryz.prog f args w fun e w' => e = .returned v ∧ Sess w0 hb S' w' := by
  obtain ⟨F, h, hF, hb0⟩ := s
  refine (c F h).mono fun e w' ⟨he, t⟩ => ⟨he, _, t.1, fun k hk => ?_, hb0.trans (t.2.below hF hb0.size)⟩
  rcases hk with h1 | h1
  · exact hF k h1
  · exact Nat.le_trans hb0.size h1.1
theorem Sess.keep (s : Sess w0 hb S w) (hb1 : Below w.heap.size w w') : Sess w0 hb S w' := by
  obtain ⟨F, h, hF, hb0⟩ := s
  exact ⟨F, h.below hb1, hF, Below.next_ hb0 hb1⟩
theorem Sess.alloc (s : Sess w0 hb S w) (o : Obj) : Sess w0 hb S (w.alloc o) := s.keep (Below.more_ (Below.refl _ _) o)
theorem Sess.drew (s : Sess w0 hb S w) : Sess w0 hb S w.drew := s.keep (Below.refl _ _).drew
theorem Sess.still (s : Sess w0 hb S w) (c : ∀ F, HeapIn w hb S F → Calls Tryz.prog f args w fun e w' => e = .returned v ∧ Below w.heap.size w w') : Calls Tryz.prog f args w fun e w' => e = .returned v ∧ Sess w0 hb S w' := by
  have h := s
  obtain ⟨F, h, hF, hb0⟩ := h
  exact (c F h).mono fun e w' ⟨he, hb1⟩ => ⟨he, s.keep hb1⟩
theorem Sess.same (s : Sess w0 hb S w) (c : ∀ F, HeapIn w hb S F → Calls Tryz.prog f args w fun e w' => e = .returned v ∧ w = w') : Calls Tryz.prog f args w fun e w' => e = .returned v ∧ w = w' := by
  obtain ⟨F, h, hF, hb0⟩ := s
  exact c F h
end
/-- A new heap. -/
theorem new_sess (w : World) : Calls Tryz.prog 57 #[] w fun e w' => ∃ hb, e = .returned (.pointer (some ⟨hb, 0, none⟩)) ∧ Sess w hb ⟨[], 0, false, 0⟩ w' :=
  (new_any w).mono fun e w' ⟨hb, he, h1, h2, h3, _⟩ => ⟨hb, he, _, h2, fun k hk => by
    rcases hk with h | h
    · exact h.elim
    · exact h.1, h3⟩
theorem make_sess {w0 w : World} {hb : Nat} {S : PHeap} (s : Sess w0 hb S w) (n : Nat) (hn : n ≤ 256) (t : ByteArray) (hl : S.last < 9223372036854775807) :
    Calls Tryz.prog 58 #[.pointer (some ⟨hb, 0, none⟩), .int .i64 n, .string t] w fun e w' => e = .returned (.int .u64 (S.last + 1)) ∧ ∃ r, Sess w0 hb { S with blocks := S.blocks ++ [⟨S.last + 1, r, List.replicate n 0, t⟩], last := S.last + 1 } w' := by
  obtain ⟨F, h, hF, hb0⟩ := s
  refine (make_any h n hn t hl).mono fun e w' ⟨he, r, t⟩ => ⟨he, r, _, t.1, fun k hk => ?_, hb0.trans (t.2.below hF hb0.size)⟩
  rcases hk with h1 | h1
  · exact hF k h1
  · exact Nat.le_trans hb0.size h1.1
end Go.Proofs.YtmlnhjfdhjachaaGreat
