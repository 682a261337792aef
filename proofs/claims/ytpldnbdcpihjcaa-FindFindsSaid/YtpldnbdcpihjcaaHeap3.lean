/-
  The heap's methods: Store, Bump, Load, Swap, Words. No condition.
-/
import Derived.Test.YtpldnbdcpihjcaaHeap2
namespace Go.Proofs.Ytpldnbdcpihjcaa
set_option linter.unusedVariables false
open Go.ChangeShapes Go.WideShapes Go.ChangeAt Go.RowKit
open Go.ChangeMaps (setBlock)

def PBlk.nth (x : PBlk) (i : Nat) : Int := x.cells.getD i 0
theorem set_arr (l : List Int) (i : Nat) (v : Int) : (l.map (Value.int .u64)).toArray.setIfInBounds i (.int .u64 v) = ((l.set i v).map (Value.int .u64)).toArray := by
  simp [List.map_set]
theorem cell_at {w : World} {hb : Nat} {S : PHeap} {F : Nat → Prop} (h : HeapIn w hb S F) {b : Int} {x : PBlk} (hx : S.find b = some x) {i : Nat} (hi : i < x.cells.length) :
    w.cell? ⟨x.row, i, none⟩ = some (.int .u64 (x.nth i)) ∧ w.frozen? ⟨x.row, i, none⟩ = false ∧ x.row < w.heap.size ∧ 0 ≤ x.nth i ∧ x.nth i ≤ 18446744073709551615 := by
  have hr := h.rows x (find_mem hx).1
  have hs := (h.span x (find_mem hx).1).2.2.2 (x.nth i) (by simp [PBlk.nth, List.getD, hi])
  exact ⟨by rw [hr.2.cell i]; simp [PBlk.nth, hi, List.getD], hr.2.frozen i, h.own _ hr.1, hs⟩
theorem store_one {w : World} {hb : Nat} {S : PHeap} {F : Nat → Prop} (h : HeapIn w hb S F) {b : Int} {x : PBlk} (hx : S.find b = some x) (i : Nat) (v : Int) (hv : 0 ≤ v ∧ v ≤ 18446744073709551615) :
    Turned F hb (S.set b i v) w (w.setCell ⟨x.row, i, none⟩ (.int .u64 v)) :=
  h.stored hx i v hv ((Chg.refl (fun k => k = x.row) w).setCell (p := ⟨x.row, i, none⟩) (.inl rfl) _) (((h.rows x (find_mem hx).1).2.set_ i _).eq_cs (set_arr _ _ _))

theorem store_hit {w : World} {hb : Nat} {S : PHeap} {F : Nat → Prop} (h : HeapIn w hb S F) {b v : Int} {x : PBlk} (hx : S.find b = some x) (i : Nat) (hi : i < x.cells.length) (hv : 0 ≤ v ∧ v ≤ 18446744073709551615) :
    Calls Try.prog 23 #[.pointer (some ⟨hb, 0, none⟩), .int .u64 b, .int .i64 i, .int .u64 v] w fun e w' => e = .returned (.int .i64 0) ∧ Turned F hb (S.set b i v) w w' := by
  go_enter Try.func23, Try.ntmps23
  go_wp2_with fail
  refine (cell_hit h hx i hi).mono ?_; rintro e w1 ⟨rfl, hb1⟩
  have h1 := h.below hb1
  obtain ⟨c1, c2, c3, c4, c5⟩ := cell_at h1 hx hi
  go_wp2_with fail
  go_ret
  exact ⟨rfl, Turned.after h.own hb1 (store_one h1 hx i v hv)⟩
theorem store_bad {w : World} {hb : Nat} {S : PHeap} {F : Nat → Prop} (h : HeapIn w hb S F) {b i v : Int} (hb0 : 0 ≤ b) (hc : S.code b i ≠ 0) (hf : S.faults < 9223372036854775807) :
    Calls Try.prog 23 #[.pointer (some ⟨hb, 0, none⟩), .int .u64 b, .int .i64 i, .int .u64 v] w fun e w' => e = .returned (.int .i64 (S.code b i)) ∧ Turned F hb S.fault w w' := by
  go_enter Try.func23, Try.ntmps23
  go_wp2_with fail
  refine (cell_bad h hb0 hc hf).mono ?_; rintro e w1 ⟨rfl, t1⟩
  go_wp2_with fail
  go_ret
  exact ⟨rfl, t1⟩

theorem bump_hit {w : World} {hb : Nat} {S : PHeap} {F : Nat → Prop} (h : HeapIn w hb S F) {b v : Int} {x : PBlk} (hx : S.find b = some x) (i : Nat) (hi : i < x.cells.length) (hv : 0 ≤ v ∧ v ≤ 18446744073709551615) :
    Calls Try.prog 79 #[.pointer (some ⟨hb, 0, none⟩), .int .u64 b, .int .i64 i, .int .u64 v] w fun e w' => e = .returned (.tuple #[.int .u64 (x.nth i), .int .i64 0]) ∧
      Turned F hb (S.set b i (IntKind.u64.wrap (x.nth i + v))) w w' := by
  have hw : ∀ n : Int, 0 ≤ IntKind.u64.wrap n ∧ IntKind.u64.wrap n ≤ 18446744073709551615 := fun n => by rw [IntKind.wrap_u64]; omega
  go_enter Try.func79, Try.ntmps79
  go_wp2_with fail
  refine (cell_hit h hx i hi).mono ?_; rintro e w1 ⟨rfl, hb1⟩
  have h1 := h.below hb1
  obtain ⟨c1, c2, c3, c4, c5⟩ := cell_at h1 hx hi
  go_wp2_with fail
  go_ret2
  exact ⟨rfl, Turned.after h.own hb1 (store_one h1 hx i _ (hw _))⟩
theorem bump_bad {w : World} {hb : Nat} {S : PHeap} {F : Nat → Prop} (h : HeapIn w hb S F) {b i v : Int} (hb0 : 0 ≤ b) (hc : S.code b i ≠ 0) (hf : S.faults < 9223372036854775807) :
    Calls Try.prog 79 #[.pointer (some ⟨hb, 0, none⟩), .int .u64 b, .int .i64 i, .int .u64 v] w fun e w' => e = .returned (.tuple #[.int .u64 0, .int .i64 (S.code b i)]) ∧ Turned F hb S.fault w w' := by
  go_enter Try.func79, Try.ntmps79
  go_wp2_with fail
  refine (cell_bad h hb0 hc hf).mono ?_; rintro e w1 ⟨rfl, t1⟩
  go_wp2_with fail
  go_ret2
  exact ⟨rfl, t1⟩

theorem set_self {S : PHeap} {b : Int} {x : PBlk} (hk : (S.blocks.map (·.key)).Nodup) (hx : S.find b = some x) (i : Nat) : S.set b i (x.nth i) = S := by
  unfold PHeap.set
  have : (S.blocks.map fun y => if y.key = b then { y with cells := y.cells.set i (x.nth i) } else y) = S.blocks := by
    conv => rhs; rw [← List.map_id S.blocks]
    apply List.map_congr_left
    intro y hy
    split
    · rename_i hyb
      have : y = x := eq_of_key hk hy (find_mem hx).1 (hyb.trans (find_mem hx).2.symm)
      subst this
      have : y.cells.set i (y.nth i) = y.cells := by
        apply List.ext_getElem?
        intro j
        rw [List.getElem?_set]
        split
        · rename_i he
          subst he
          split
          · rename_i hl
            simp [PBlk.nth, List.getD, hl]
          · rename_i hl
            simp at hl
            simp [hl]
        · rfl
      rw [this]
      rfl
    · rfl
  rw [this]

theorem load_hit {w : World} {hb : Nat} {S : PHeap} {F : Nat → Prop} (h : HeapIn w hb S F) {b : Int} {x : PBlk} (hx : S.find b = some x) (i : Nat) (hi : i < x.cells.length) :
    Calls Try.prog 39 #[.pointer (some ⟨hb, 0, none⟩), .int .u64 b, .int .i64 i] w fun e w' => e = .returned (.tuple #[.int .u64 (x.nth i), .int .i64 0]) ∧ Turned F hb S w w' := by
  obtain ⟨_, _, _, c4, c5⟩ := cell_at h hx hi
  have e1 : S.set b i (IntKind.u64.wrap (x.nth i + 0)) = S := by
    rw [IntKind.wrap_u64, show (x.nth i + 0) % 18446744073709551616 = x.nth i by omega]
    exact set_self h.keys hx i
  go_enter Try.func39, Try.ntmps39
  go_wp2_with fail
  refine (bump_hit h hx i hi (by omega)).mono ?_; rintro e w1 ⟨rfl, t1⟩
  rw [e1] at t1
  clear e1
  go_wp2_with fail
  go_ret2
  exact ⟨rfl, t1⟩
theorem load_bad {w : World} {hb : Nat} {S : PHeap} {F : Nat → Prop} (h : HeapIn w hb S F) {b i : Int} (hb0 : 0 ≤ b) (hc : S.code b i ≠ 0) (hf : S.faults < 9223372036854775807) :
    Calls Try.prog 39 #[.pointer (some ⟨hb, 0, none⟩), .int .u64 b, .int .i64 i] w fun e w' => e = .returned (.tuple #[.int .u64 0, .int .i64 (S.code b i)]) ∧ Turned F hb S.fault w w' := by
  go_enter Try.func39, Try.ntmps39
  go_wp2_with fail
  refine (bump_bad h hb0 hc hf).mono ?_; rintro e w1 ⟨rfl, t1⟩
  go_wp2_with fail
  go_ret2
  exact ⟨rfl, t1⟩

theorem swap_hit {w : World} {hb : Nat} {S : PHeap} {F : Nat → Prop} (h : HeapIn w hb S F) {b old v : Int} {x : PBlk} (hx : S.find b = some x) (i : Nat) (hi : i < x.cells.length) (hv : 0 ≤ v ∧ v ≤ 18446744073709551615) :
    Calls Try.prog 78 #[.pointer (some ⟨hb, 0, none⟩), .int .u64 b, .int .i64 i, .int .u64 old, .int .u64 v] w fun e w' => e = .returned (.tuple #[.int .u64 (x.nth i), .int .i64 0]) ∧
      Turned F hb (if x.nth i = old then S.set b i v else S) w w' := by
  by_cases he : x.nth i = old
  · rw [if_pos he]
    subst he
    go_enter Try.func78, Try.ntmps78
    go_wp2_with fail
    refine (cell_hit h hx i hi).mono ?_; rintro e w1 ⟨rfl, hb1⟩
    have h1 := h.below hb1
    obtain ⟨c1, c2, c3, c4, c5⟩ := cell_at h1 hx hi
    go_wp2_with fail
    go_ret2
    exact ⟨rfl, Turned.after h.own hb1 (store_one h1 hx i v hv)⟩
  · rw [if_neg he]
    go_enter Try.func78, Try.ntmps78
    go_wp2_with fail
    refine (cell_hit h hx i hi).mono ?_; rintro e w1 ⟨rfl, hb1⟩
    have h1 := h.below hb1
    obtain ⟨c1, c2, c3, c4, c5⟩ := cell_at h1 hx hi
    go_wp2_with fail
    go_ret2
    exact ⟨rfl, Turned.still h hb1⟩
theorem swap_bad {w : World} {hb : Nat} {S : PHeap} {F : Nat → Prop} (h : HeapIn w hb S F) {b i old v : Int} (hb0 : 0 ≤ b) (hc : S.code b i ≠ 0) (hf : S.faults < 9223372036854775807) :
    Calls Try.prog 78 #[.pointer (some ⟨hb, 0, none⟩), .int .u64 b, .int .i64 i, .int .u64 old, .int .u64 v] w fun e w' => e = .returned (.tuple #[.int .u64 0, .int .i64 (S.code b i)]) ∧ Turned F hb S.fault w w' := by
  go_enter Try.func78, Try.ntmps78
  go_wp2_with fail
  refine (cell_bad h hb0 hc hf).mono ?_; rintro e w1 ⟨rfl, t1⟩
  go_wp2_with fail
  go_ret2
  exact ⟨rfl, t1⟩

theorem words_hit {w : World} {hb : Nat} {S : PHeap} {F : Nat → Prop} (h : HeapIn w hb S F) {b : Int} {x : PBlk} (hx : S.find b = some x) :
    Calls Try.prog 80 #[.pointer (some ⟨hb, 0, none⟩), .int .u64 b] w fun e w' => e = .returned (.tuple #[.string x.text, .int .i64 0]) ∧ Below w.heap.size w w' := by
  go_enter Try.func80, Try.ntmps80
  go_wp2_with fail
  refine (block_hit h hx).mono ?_; rintro e w1 ⟨rfl, hb1⟩
  go_wp2_with fail
  go_ret2
  exact ⟨rfl, Below.more_ hb1 _⟩
theorem words_bad {w : World} {hb : Nat} {S : PHeap} {F : Nat → Prop} (h : HeapIn w hb S F) {b : Int} (hb0 : 0 ≤ b) (hx : S.find b = none) (hf : S.faults < 9223372036854775807) :
    Calls Try.prog 80 #[.pointer (some ⟨hb, 0, none⟩), .int .u64 b] w fun e w' => e = .returned (.tuple #[.string ByteArray.empty, .int .i64 (S.miss b)]) ∧ Turned F hb S.fault w w' := by
  have hm := miss_le S b
  go_enter Try.func80, Try.ntmps80
  go_wp2_with fail
  refine (block_miss h hb0 hx hf).mono ?_; rintro e w1 ⟨rfl, h1, hc1⟩
  go_wp2_with fail
  go_ret2
  exact ⟨rfl, Turned.more ⟨h1, hc1⟩ (Below.more_ (Below.refl _ _) _)⟩
end Go.Proofs.Ytpldnbdcpihjcaa
