/-
  The heap's methods on cells: cell, Load, Store, Swap, Bump, Words. No condition.
-/
import Derived.Test.YtpldnbdcpihjcaaHeap
namespace Go.Proofs.Ytpldnbdcpihjcaa
set_option linter.unusedVariables false
open Go.ChangeShapes Go.WideShapes Go.ChangeAt Go.RowKit
open Go.ChangeMaps (setBlock)

/-- A cell's code: 0 where it is there. -/
def PHeap.code (S : PHeap) (b i : Int) : Int := match S.find b with
  | none => S.miss b
  | some x => if 0 ≤ i ∧ i < x.cells.length then 0 else 18
theorem miss_le (S : PHeap) (b : Int) : 16 ≤ S.miss b ∧ S.miss b ≤ 17 := by unfold PHeap.miss; split <;> omega
theorem code_hit {S : PHeap} {b i : Int} {x : PBlk} (hx : S.find b = some x) (hi : 0 ≤ i ∧ i < x.cells.length) : S.code b i = 0 := by unfold PHeap.code; rw [hx]; exact if_pos hi
theorem code_out {S : PHeap} {b i : Int} {x : PBlk} (hx : S.find b = some x) (hi : ¬ (0 ≤ i ∧ i < x.cells.length)) : S.code b i = 18 := by unfold PHeap.code; rw [hx]; exact if_neg hi
theorem code_miss {S : PHeap} {b i : Int} (hx : S.find b = none) : S.code b i = S.miss b := by unfold PHeap.code; rw [hx]

/-- The call has turned the heap into S', and nothing else that was there. -/
def Turned (F : Nat → Prop) (hb : Nat) (S' : PHeap) (w w' : World) : Prop := HeapIn w' hb S' (nw F w w') ∧ Chg F w w'
section
variable {F : Nat → Prop} {hb : Nat} {S S1 S2 : PHeap} {w w1 w2 : World}
theorem nw_sub (h1 : w.heap.size ≤ w1.heap.size) (k : Nat) (hk : nw F w1 w2 k) : nw F w w2 k := by
  rcases hk with h | h
  · exact .inl h
  · exact .inr ⟨Nat.le_trans h1 h.1, h.2⟩
theorem nw_more (h1 : w1.heap.size ≤ w2.heap.size) (k : Nat) (hk : nw F w w1 k) : nw F w w2 k := by
  rcases hk with h | h
  · exact .inl h
  · exact .inr ⟨h.1, Nat.lt_of_lt_of_le h.2 h1⟩
theorem nw_in (hF : In F w) (hs : w.heap.size ≤ w2.heap.size) : In (nw F w w2) w2 := hF.nw hs
theorem Turned.after (hF : In F w) (hb1 : Below w.heap.size w w1) (t : Turned F hb S1 w1 w2) : Turned F hb S1 w w2 :=
  ⟨t.1.mono (nw_in hF (Nat.le_trans hb1.size t.2.size)) (nw_sub hb1.size), (Chg.of_below hb1 F).trans t.2 fun _ h => .inl h⟩
theorem Turned.more (t : Turned F hb S1 w w1) (hb1 : Below w1.heap.size w1 w2) : Turned F hb S1 w w2 :=
  ⟨(t.1.below hb1).mono (fun k hk => by
    rcases hk with h | h
    · exact Nat.lt_of_lt_of_le (t.1.own k (.inl h)) hb1.size
    · exact h.2) (nw_more hb1.size), t.2.next_ hb1⟩
theorem Turned.trans (t : Turned F hb S1 w w1) (u : Turned (nw F w w1) hb S2 w1 w2) : Turned F hb S2 w w2 := by
  refine ⟨u.1.mono (fun k hk => ?_) (fun k hk => ?_), t.2.then_ u.2⟩
  · rcases hk with h | h
    · exact Nat.lt_of_lt_of_le (t.1.own k (.inl h)) u.2.size
    · exact h.2
  · rcases hk with h | h
    · exact nw_more u.2.size k h
    · exact .inr ⟨Nat.le_trans t.2.size h.1, h.2⟩
theorem Turned.still (h : HeapIn w hb S F) (hb1 : Below w.heap.size w w1) : Turned F hb S w w1 :=
  ⟨(h.below hb1).mono (h.own.nw hb1.size) (fun _ h => .inl h), Chg.of_below hb1 F⟩
end

theorem cell_hit {w : World} {hb : Nat} {S : PHeap} {F : Nat → Prop} (h : HeapIn w hb S F) {b : Int} {x : PBlk} (hx : S.find b = some x) (i : Nat) (hi : i < x.cells.length) :
    Calls Try.prog 67 #[.pointer (some ⟨hb, 0, none⟩), .int .u64 b, .int .i64 i] w fun e w' => e = .returned (.tuple #[.pointer (some ⟨x.row, i, none⟩), .int .i64 0]) ∧ Below w.heap.size w w' := by
  have hlen := (h.span x (find_mem hx).1).2.2.1
  go_enter Try.func67, Try.ntmps67
  go_wp2_with fail
  refine (block_hit h hx).mono ?_; rintro e w1 ⟨rfl, hb1⟩
  go_wp2_with fail
  go_ret2
  exact ⟨rfl, Below.more_ hb1 _⟩

theorem cell_bad {w : World} {hb : Nat} {S : PHeap} {F : Nat → Prop} (h : HeapIn w hb S F) {b i : Int} (hb0 : 0 ≤ b) (hc : S.code b i ≠ 0) (hf : S.faults < 9223372036854775807) :
    Calls Try.prog 67 #[.pointer (some ⟨hb, 0, none⟩), .int .u64 b, .int .i64 i] w fun e w' => e = .returned (.tuple #[.pointer none, .int .i64 (S.code b i)]) ∧ Turned F hb S.fault w w' := by
  cases hx : S.find b with
  | none =>
    have hm := miss_le S b
    rw [code_miss hx]
    clear hc
    go_enter Try.func67, Try.ntmps67
    go_wp2_with fail
    refine (block_miss h hb0 hx hf).mono ?_; rintro e w1 ⟨rfl, h1, hc1⟩
    go_wp2_with fail
    go_ret2
    exact ⟨rfl, Turned.more ⟨h1, hc1⟩ (Below.more_ (Below.refl _ _) _)⟩
  | some x =>
    have hi : ¬ (0 ≤ i ∧ i < x.cells.length) := fun hi => hc (code_hit hx hi)
    rw [code_out hx hi]
    clear hc
    have hlen := (h.span x (find_mem hx).1).2.2.1
    have hf0 := h.faults0
    go_enter Try.func67, Try.ntmps67
    go_wp2_with fail
    refine (block_hit h hx).mono ?_; rintro e w1 ⟨rfl, hb1⟩
    have h1 := h.below hb1
    obtain ⟨mo, hm1, _⟩ := h1.look b
    have hlt := h1.own _ h1.hF
    by_cases hneg : i < 0
    all_goals
      go_wp2_with fail
      refine (wrong_any hb 18 S.faults _ _ (hm1.alloc _) rfl (by omega)).mono ?_; rintro e w2 ⟨rfl, rfl⟩
      go_wp2_with fail
      go_ret2
      refine ⟨rfl, Turned.after h.own hb1 (h1.faulted hm1 ?_ (Blk.eq_cs (cs := (heapCells mo S).setIfInBounds 3 (.int .i64 (S.faults + 1))) ?_ rfl))⟩
      · (repeat first | exact Chg.refl _ _ | assumption | refine Chg.drew ?_ | refine Chg.drewN ?_ _ | refine Chg.alloc ?_ _ | refine Chg.setCell ?_ (by first | (left; rfl) | (left; assumption) | (right; exact Nat.le_refl _) | (right; simp; done) | (right; simp; omega)) _ | refine Chg.setBlock ?_ (by first | (left; rfl) | (left; assumption) | (right; exact Nat.le_refl _) | (right; simp; done) | (right; simp; omega)) _)
      · (repeat first | exact hm1 | refine Blk.drew ?_ | refine Blk.drewN ?_ _ | refine Blk.alloc ?_ _ | refine Blk.set_ ?_ _ _ | refine Blk.far ?_ (by simp; omega) _ | refine Blk.setb ?_ (by omega) _)

def PHeap.set (S : PHeap) (b : Int) (i : Nat) (v : Int) : PHeap := { S with blocks := S.blocks.map fun x => if x.key = b then { x with cells := x.cells.set i v } else x }
theorem set_ents (S : PHeap) (b : Int) (i : Nat) (v : Int) : (S.set b i v).ents = S.ents := by
  unfold PHeap.ents PHeap.set
  simp only [List.map_map]
  apply List.map_congr_left
  intro x _
  simp only [Function.comp]
  split <;> simp [PBlk.val]
theorem eq_of_key {l : List PBlk} (h : (l.map (·.key)).Nodup) {x y : PBlk} (hx : x ∈ l) (hy : y ∈ l) (he : x.key = y.key) : x = y := by
  induction l with
  | nil => cases hx
  | cons a l ih =>
    simp only [List.map_cons, List.nodup_cons] at h
    rcases List.mem_cons.1 hx with rfl | hx' <;> rcases List.mem_cons.1 hy with rfl | hy'
    · rfl
    · exact absurd (List.mem_map.2 ⟨y, hy', he.symm⟩) h.1
    · exact absurd (List.mem_map.2 ⟨x, hx', he⟩) h.1
    · exact ih h.2 hx' hy'
theorem eq_of_row {l : List PBlk} (h : (l.map (·.row)).Nodup) {x y : PBlk} (hx : x ∈ l) (hy : y ∈ l) (he : x.row = y.row) : x = y := by
  induction l with
  | nil => cases hx
  | cons a l ih =>
    simp only [List.map_cons, List.nodup_cons] at h
    rcases List.mem_cons.1 hx with rfl | hx' <;> rcases List.mem_cons.1 hy with rfl | hy'
    · rfl
    · exact absurd (List.mem_map.2 ⟨y, hy', he.symm⟩) h.1
    · exact absurd (List.mem_map.2 ⟨x, hx', he⟩) h.1
    · exact ih h.2 hx' hy'
theorem HeapIn.stored {w w' : World} {hb : Nat} {S : PHeap} {F : Nat → Prop} (h : HeapIn w hb S F) {b : Int} {x : PBlk} (hx : S.find b = some x) (i : Nat) (v : Int) (hv : 0 ≤ v ∧ v ≤ 18446744073709551615)
    (hc : Chg (fun k => k = x.row) w w') (hB : Blk w' x.row 22 ((x.cells.set i v).map (Value.int .u64)).toArray) : Turned F hb (S.set b i v) w w' := by
  obtain ⟨hxm, hxk⟩ := find_mem hx
  have hk : ∀ k, F k → k ≠ x.row → w'.heap[k]? = w.heap[k]? := fun k hk hn => hc.block k (h.own k hk) hn
  obtain ⟨mo, hm1, hm2⟩ := h.m
  obtain ⟨hxF, hxB⟩ := h.rows x hxm
  refine ⟨⟨h.own.nw hc.size, .inl h.hF, ⟨mo, (show Blk w' hb _ (heapCells mo S) from hm1.keep (hk _ h.hF (Blk.ne_ hm1 hxB (by decide)))), ?_⟩, ?_, ?_, ?_, ?_, h.last0, h.faults0⟩, hc.mono fun k hk => hk ▸ hxF⟩
  · rcases hm2 with ⟨h1, h2, h3⟩ | ⟨m, h1, h2, h3⟩
    · rw [h2] at hxm
      cases hxm
    · exact .inr ⟨m, h1, .inl h2, by rw [set_ents]; exact h3.keep (hk _ h2 (h3.ne_blk hxB))⟩
  · intro y hy
    obtain ⟨z, hz, rfl⟩ := List.mem_map.1 hy
    by_cases hzb : z.key = b
    · have : z = x := by
        have := h.keys
        exact eq_of_key this hz hxm (hzb.trans hxk.symm)
      subst this
      rw [if_pos hzb]
      exact ⟨.inl hxF, hB⟩
    · rw [if_neg hzb]
      refine ⟨.inl (h.rows z hz).1, (h.rows z hz).2.keep (hk _ (h.rows z hz).1 fun he => hzb ?_)⟩
      rw [eq_of_row h.apart hz hxm he]
      exact hxk
  · have : (S.set b i v).blocks.map (·.row) = S.blocks.map (·.row) := by
      simp only [PHeap.set, List.map_map]
      apply List.map_congr_left
      intro y _
      simp only [Function.comp]
      split <;> rfl
    rw [this]
    exact h.apart
  · have : (S.set b i v).blocks.map (·.key) = S.blocks.map (·.key) := by
      simp only [PHeap.set, List.map_map]
      apply List.map_congr_left
      intro y _
      simp only [Function.comp]
      split <;> rfl
    rw [this]
    exact h.keys
  · intro y hy
    obtain ⟨z, hz, rfl⟩ := List.mem_map.1 hy
    have := h.span z hz
    split
    · refine ⟨this.1, this.2.1, by simpa using this.2.2.1, fun u hu => ?_⟩
      rcases List.mem_or_eq_of_mem_set hu with h1 | h1
      · exact this.2.2.2 u h1
      · subst h1; exact hv
    · exact this
end Go.Proofs.Ytpldnbdcpihjcaa
