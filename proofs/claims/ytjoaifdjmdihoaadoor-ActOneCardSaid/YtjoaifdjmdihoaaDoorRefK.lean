/-
  The document's heap (layer 17): its methods but Make and Blocks, each in one contract. No condition.
-/
import Derived.Test.YtjoaifdjmdihoaaDoorRefJ
namespace Go.Proofs.YtjoaifdjmdihoaaDoor
set_option linter.unusedVariables false
open Go.ChangeShapes Go.WideShapes Go.ChangeAt Go.RowKit
open Go.ChangeMaps (setBlock)

theorem miss_two (S : PHeap) (b : Int) : S.miss b = 16 ∨ S.miss b = 17 := by unfold PHeap.miss; split <;> simp
section
variable {w : World} {xb : Nat} {S : PHeap} {F : Nat → Prop} (h : RefIn w xb S F)
include h
theorem RefIn.faulted : w.cell? ⟨xb, 2, none⟩ = some (.int .i64 S.faults) ∧ w.frozen? ⟨xb, 2, none⟩ = false ∧ RTurned F xb S.fault w (w.setCell ⟨xb, 2, none⟩ (.int .i64 (S.faults + 1))) := by
  obtain ⟨A, cap, R, hX, hR, hlen, ht⟩ := h.ex
  exact ⟨hX.cell 2, hX.frozen 2, h.fault hX hR hlen ht⟩
set_option maxRecDepth 100000 in
set_option maxHeartbeats 2000000 in
theorem rcell_hit (b : Int) (hb0 : 0 ≤ b) {x : PBlk} (hx : S.find b = some x) (j : Nat) (hj : j < x.cells.length) (hl : S.last ≤ 1000000) :
    Calls Tryd.prog 55 #[.pointer (some ⟨xb, 0, none⟩), .int .u64 b, .int .i64 j] w fun e w' => e = .returned (.int .i64 0) ∧ w = w' := by
  have hfd := rfind_hit h b hb0 hx hl
  obtain ⟨gv, n, cap, i, g, rcap, s⟩ := h.spot hb0 hx hl
  obtain ⟨c0, wb, wb1, i1, i2, r0, r1, r2, f2, cells, fr, sto, dro⟩ := s
  have d1 : decide ((j : Int) < 0) = false := by simp
  have d2 : decide ((x.cells.length : Int) ≤ (j : Int)) = false := by simp; omega
  generalize x.cells.length = xl at *
  clear cells
  replace hx := Lib.hid hx
  replace hfd := Lib.hid hfd
  replace sto := Lib.hid sto
  replace dro := Lib.hid dro
  go_enter Tryd.func55, Tryd.ntmps55
  go_wp2_with fail
  refine (hfd.out).mono ?_; rintro e w1 ⟨rfl, rfl⟩
  go_wp2_with fail
  go_ret
  exact ⟨rfl, rfl⟩
set_option maxRecDepth 100000 in
set_option maxHeartbeats 2000000 in
theorem rcell_bad (b j : Int) (hb0 : 0 ≤ b) (hc : ¬ S.code b j = 0) (hl : S.last ≤ 1000000) (hf : S.faults ≤ 1000000000) :
    Calls Tryd.prog 55 #[.pointer (some ⟨xb, 0, none⟩), .int .u64 b, .int .i64 j] w fun e w' => e = .returned (.int .i64 (S.code b j)) ∧ RTurned F xb S.fault w w' := by
  cases hx : S.find b with
  | none =>
    have hfd := rfind_miss h b hb0 hx hl hf
    rw [code_miss hx]
    rcases miss_two S b with hm | hm <;> rw [hm] at hfd ⊢
    all_goals
      clear hm
      replace hfd := Lib.hid hfd
      replace hc := Lib.hid hc
      replace hx := Lib.hid hx
      go_enter Tryd.func55, Tryd.ntmps55
      go_wp2_with fail
      refine (hfd.out).mono ?_; rintro e w1 ⟨rfl, t1⟩
      go_wp2_with fail
      go_ret
      exact ⟨rfl, t1⟩
  | some x =>
    have hfd := rfind_hit h b hb0 hx hl
    have hin : ¬ (0 ≤ j ∧ j < (x.cells.length : Int)) := fun hh => hc (code_hit hx hh)
    rw [code_out hx hin]
    obtain ⟨gv, n, cap, i, g, rcap, s⟩ := h.spot hb0 hx hl
    obtain ⟨c0, wb, wb1, i1, i2, r0, r1, r2, f2, cells, fr, sto, dro⟩ := s
    obtain ⟨c2, g2, hfl⟩ := h.faulted
    have h63 : S.faults + 1 ≤ 9223372036854775807 := by omega
    have hf0 := h.faults0
    generalize x.cells.length = xl at *
    clear cells
    replace hx := Lib.hid hx
    replace hfd := Lib.hid hfd
    replace sto := Lib.hid sto
    replace dro := Lib.hid dro
    replace hfl := Lib.hid hfl
    replace hc := Lib.hid hc
    by_cases hj : j < 0
    · have d1 : decide (j < 0) = true := by simpa using hj
      clear hin
      go_enter Tryd.func55, Tryd.ntmps55
      go_wp2_with fail
      refine (hfd.out).mono ?_; rintro e w1 ⟨rfl, rfl⟩
      go_wp2_with fail
      go_ret
      exact ⟨rfl, hfl.out⟩
    · have d1 : decide (j < 0) = false := by simpa using hj
      have d2 : decide ((xl : Int) ≤ j) = true := by simp; omega
      clear hin
      go_enter Tryd.func55, Tryd.ntmps55
      go_wp2_with fail
      refine (hfd.out).mono ?_; rintro e w1 ⟨rfl, rfl⟩
      go_wp2_with fail
      go_ret
      exact ⟨rfl, hfl.out⟩
set_option maxRecDepth 100000 in
set_option maxHeartbeats 2000000 in
theorem rload_any (b j : Int) (hb0 : 0 ≤ b) (hl : S.last ≤ 1000000) (hf : S.faults ≤ 1000000000) :
    Calls Tryd.prog 30 #[.pointer (some ⟨xb, 0, none⟩), .int .u64 b, .int .i64 j] w fun e w' => e = .returned (.tuple #[.int .u64 (S.load b j).1, .int .i64 (S.code b j)]) ∧ RTurned F xb (S.load b j).2 w w' ∧ (S.code b j = 0 → w = w') := by
  unfold PHeap.load
  by_cases hc : S.code b j = 0
  · obtain ⟨x, hx, h0, h1⟩ := code_zero hc
    obtain ⟨j, rfl⟩ := Int.eq_ofNat_of_zero_le h0
    rw [if_pos hc, hc, word_eq hx, Int.toNat_natCast]
    have hst : RTurned F xb S w w := RTurned.still h (Below.refl _ _)
    have hcl := rcell_hit h b hb0 hx j (by omega) hl
    obtain ⟨gv, n, cap, i, g, rcap, s⟩ := h.spot hb0 hx hl
    obtain ⟨c0, wb, wb1, i1, i2, r0, r1, r2, f2, cells, fr, sto, dro⟩ := s
    have cj := cells j (by omega)
    have hjx : (j : Int) < (x.cells.length : Int) := h1
    generalize x.nth j = xn at *
    clear cells
    generalize x.cells.length = xl at *
    replace hx := Lib.hid hx
    replace hcl := Lib.hid hcl
    replace sto := Lib.hid sto
    replace dro := Lib.hid dro
    replace hst := Lib.hid hst
    replace hc := Lib.hid hc
    go_enter Tryd.func30, Tryd.ntmps30
    go_wp2_with fail
    refine (hcl.out).mono ?_; rintro e w1 ⟨rfl, rfl⟩
    go_wp2_with fail
    go_ret2
    exact ⟨rfl, hst.out, fun _ => rfl⟩
  · rw [if_neg hc]
    have hcl := rcell_bad h b j hb0 hc hl hf
    generalize hcd : S.code b j = cd at *
    have d1 : (cd == 0) = false := by simpa using hc
    replace hcl := Lib.hid hcl
    replace hcd := Lib.hid hcd
    go_enter Tryd.func30, Tryd.ntmps30
    go_wp2_with fail
    refine (hcl.out).mono ?_; rintro e w1 ⟨rfl, t1⟩
    go_wp2_with fail
    go_ret2
    exact ⟨rfl, t1, fun e => absurd e hc⟩
set_option maxRecDepth 100000 in
set_option maxHeartbeats 2000000 in
theorem rstore_any (b j v : Int) (hb0 : 0 ≤ b) (hl : S.last ≤ 1000000) (hf : S.faults ≤ 1000000000) :
    Calls Tryd.prog 37 #[.pointer (some ⟨xb, 0, none⟩), .int .u64 b, .int .i64 j, .int .u64 v] w fun e w' => e = .returned (.int .i64 (S.code b j)) ∧ RTurned F xb (S.store b j v) w w' := by
  unfold PHeap.store
  by_cases hc : S.code b j = 0
  · obtain ⟨x, hx, h0, h1⟩ := code_zero hc
    obtain ⟨j, rfl⟩ := Int.eq_ofNat_of_zero_le h0
    rw [if_pos hc, hc, Int.toNat_natCast]
    have hcl := rcell_hit h b hb0 hx j (by omega) hl
    obtain ⟨gv, n, cap, i, g, rcap, s⟩ := h.spot hb0 hx hl
    obtain ⟨c0, wb, wb1, i1, i2, r0, r1, r2, f2, cells, fr, sto, dro⟩ := s
    have cj := cells j (by omega)
    have fj := fr j
    have sj := sto j v
    have hjx : (j : Int) < (x.cells.length : Int) := h1
    clear cells sto fr
    generalize x.cells.length = xl at *
    replace hx := Lib.hid hx
    replace hcl := Lib.hid hcl
    replace sj := Lib.hid sj
    replace dro := Lib.hid dro
    replace hc := Lib.hid hc
    go_enter Tryd.func37, Tryd.ntmps37
    go_wp2_with fail
    refine (hcl.out).mono ?_; rintro e w1 ⟨rfl, rfl⟩
    go_wp2_with fail
    go_ret
    exact ⟨rfl, sj.out⟩
  · rw [if_neg hc]
    have hcl := rcell_bad h b j hb0 hc hl hf
    generalize hcd : S.code b j = cd at *
    have d1 : (cd == 0) = false := by simpa using hc
    replace hcl := Lib.hid hcl
    replace hcd := Lib.hid hcd
    go_enter Tryd.func37, Tryd.ntmps37
    go_wp2_with fail
    refine (hcl.out).mono ?_; rintro e w1 ⟨rfl, t1⟩
    go_wp2_with fail
    go_ret
    exact ⟨rfl, t1⟩
set_option maxRecDepth 100000 in
set_option maxHeartbeats 2000000 in
theorem rbump_any (b j v : Int) (hb0 : 0 ≤ b) (hl : S.last ≤ 1000000) (hf : S.faults ≤ 1000000000) :
    Calls Tryd.prog 39 #[.pointer (some ⟨xb, 0, none⟩), .int .u64 b, .int .i64 j, .int .u64 v] w fun e w' => e = .returned (.tuple #[.int .u64 (S.bump b j v).1, .int .i64 (S.code b j)]) ∧ RTurned F xb (S.bump b j v).2 w w' := by
  have hld := rload_any h b j hb0 hl hf
  have hst := rstore_any h b j (IntKind.u64.wrap (S.word b j + v)) hb0 hl hf
  unfold PHeap.load at hld
  unfold PHeap.store at hst
  unfold PHeap.bump
  by_cases hc : S.code b j = 0
  · rw [if_pos hc, hc] at hld hst ⊢
    generalize S.word b j = xn at *
    simp only [true_implies] at hld
    replace hld := Lib.hid hld
    replace hst := Lib.hid hst
    replace hc := Lib.hid hc
    go_enter Tryd.func39, Tryd.ntmps39
    go_wp2_with fail
    refine (hld.out).mono ?_; rintro e w1 ⟨rfl, t1, rfl⟩
    clear t1
    go_wp2_with fail
    refine (hst.out).mono ?_; rintro e w2 ⟨rfl, t2⟩
    go_wp2_with fail
    go_ret2
    exact ⟨rfl, t2⟩
  · rw [if_neg hc] at hld hst ⊢
    clear hst
    generalize hcd : S.code b j = cd at *
    have d1 : (cd == 0) = false := by simpa using hc
    replace hld := Lib.hid hld
    replace hcd := Lib.hid hcd
    go_enter Tryd.func39, Tryd.ntmps39
    go_wp2_with fail
    refine (hld.out).mono ?_; rintro e w1 ⟨rfl, t1, t0⟩
    clear t0
    replace t1 := Lib.hid t1
    go_wp2_with fail
    go_ret2
    exact ⟨rfl, t1.out⟩
set_option maxRecDepth 100000 in
set_option maxHeartbeats 2000000 in
theorem rswap_any (b j old v : Int) (hb0 : 0 ≤ b) (hl : S.last ≤ 1000000) (hf : S.faults ≤ 1000000000) :
    Calls Tryd.prog 38 #[.pointer (some ⟨xb, 0, none⟩), .int .u64 b, .int .i64 j, .int .u64 old, .int .u64 v] w fun e w' => e = .returned (.tuple #[.int .u64 (S.swap b j old v).1, .int .i64 (S.code b j)]) ∧ RTurned F xb (S.swap b j old v).2 w w' := by
  have hld := rload_any h b j hb0 hl hf
  have hst := rstore_any h b j v hb0 hl hf
  unfold PHeap.load at hld
  unfold PHeap.store at hst
  unfold PHeap.swap
  by_cases hc : S.code b j = 0
  · rw [if_pos hc, hc] at hld hst ⊢
    generalize S.word b j = xn at *
    simp only [true_implies] at hld
    replace hld := Lib.hid hld
    replace hst := Lib.hid hst
    replace hc := Lib.hid hc
    by_cases ho : xn = old
    · subst ho
      rw [if_pos rfl]
      go_enter Tryd.func38, Tryd.ntmps38
      go_wp2_with fail
      refine (hld.out).mono ?_; rintro e w1 ⟨rfl, t1, rfl⟩
      clear t1
      go_wp2_with fail
      refine (hst.out).mono ?_; rintro e w2 ⟨rfl, t2⟩
      go_wp2_with fail
      go_ret2
      exact ⟨rfl, t2⟩
    · rw [if_neg ho]
      have d1 : (xn == old) = false := by simpa using ho
      clear hst
      go_enter Tryd.func38, Tryd.ntmps38
      go_wp2_with fail
      refine (hld.out).mono ?_; rintro e w1 ⟨rfl, t1, rfl⟩
      replace t1 := Lib.hid t1
      go_wp2_with fail
      go_ret2
      exact ⟨rfl, t1.out⟩
  · rw [if_neg hc] at hld hst ⊢
    clear hst
    generalize hcd : S.code b j = cd at *
    have d1 : (cd == 0) = false := by simpa using hc
    replace hld := Lib.hid hld
    replace hcd := Lib.hid hcd
    go_enter Tryd.func38, Tryd.ntmps38
    go_wp2_with fail
    refine (hld.out).mono ?_; rintro e w1 ⟨rfl, t1, t0⟩
    clear t0
    replace t1 := Lib.hid t1
    go_wp2_with fail
    go_ret2
    exact ⟨rfl, t1.out⟩
set_option maxRecDepth 100000 in
set_option maxHeartbeats 2000000 in
theorem rwords_any (b : Int) (hb0 : 0 ≤ b) (hl : S.last ≤ 1000000) (hf : S.faults ≤ 1000000000) :
    Calls Tryd.prog 41 #[.pointer (some ⟨xb, 0, none⟩), .int .u64 b] w fun e w' => e = .returned (.tuple #[.string (S.words b).1, .int .i64 (if (S.find b).isSome then 0 else S.miss b)]) ∧ RTurned F xb (S.words b).2 w w' := by
  unfold PHeap.words
  cases hx : S.find b with
  | none =>
    have hfd := rfind_miss h b hb0 hx hl hf
    simp only [Option.isSome_none, Bool.false_eq_true, if_false]
    rw [show ByteArray.empty = ⟨#[]⟩ from rfl]
    rcases miss_two S b with hm | hm <;> rw [hm] at hfd ⊢
    all_goals
      clear hm
      replace hfd := Lib.hid hfd
      replace hx := Lib.hid hx
      go_enter Tryd.func41, Tryd.ntmps41
      go_wp2_with fail
      refine (hfd.out).mono ?_; rintro e w1 ⟨rfl, t1⟩
      go_wp2_with fail
      go_ret2
      exact ⟨rfl, t1⟩
  | some x =>
    have hfd := rfind_hit h b hb0 hx hl
    have hst : RTurned F xb S w w := RTurned.still h (Below.refl _ _)
    simp only [Option.isSome_some, if_true]
    obtain ⟨gv, n, cap, i, g, rcap, s⟩ := h.spot hb0 hx hl
    obtain ⟨c0, wb, wb1, i1, i2, r0, r1, r2, f2, cells, fr, sto, dro⟩ := s
    clear cells sto fr dro
    replace hfd := Lib.hid hfd
    replace hx := Lib.hid hx
    replace hst := Lib.hid hst
    go_enter Tryd.func41, Tryd.ntmps41
    go_wp2_with fail
    refine (hfd.out).mono ?_; rintro e w1 ⟨rfl, rfl⟩
    go_wp2_with fail
    go_ret2
    exact ⟨rfl, hst.out⟩
set_option maxRecDepth 100000 in
set_option maxHeartbeats 2000000 in
theorem rdrop_any (b : Int) (hb0 : 0 ≤ b) (hl : S.last ≤ 1000000) (hf : S.faults ≤ 1000000000) :
    Calls Tryd.prog 42 #[.pointer (some ⟨xb, 0, none⟩), .int .u64 b] w fun e w' => e = .returned (.int .i64 (if (S.find b).isSome then 0 else S.miss b)) ∧ RTurned F xb (S.drop b) w w' := by
  cases hx : S.find b with
  | none =>
    have hfd := rfind_miss h b hb0 hx hl hf
    have hd : S.drop b = S.fault := by unfold PHeap.drop; rw [hx]
    rw [hd]
    simp only [Option.isSome_none, Bool.false_eq_true, if_false]
    rcases miss_two S b with hm | hm <;> rw [hm] at hfd ⊢
    all_goals
      clear hm
      replace hfd := Lib.hid hfd
      replace hx := Lib.hid hx
      replace hd := Lib.hid hd
      go_enter Tryd.func42, Tryd.ntmps42
      go_wp2_with fail
      refine (hfd.out).mono ?_; rintro e w1 ⟨rfl, t1⟩
      go_wp2_with fail
      go_ret
      exact ⟨rfl, t1⟩
  | some x =>
    have hfd := rfind_hit h b hb0 hx hl
    simp only [Option.isSome_some, if_true]
    obtain ⟨gv, n, cap, i, g, rcap, s⟩ := h.spot hb0 hx hl
    obtain ⟨c0, wb, wb1, i1, i2, r0, r1, r2, f2, cells, fr, sto, dro⟩ := s
    clear cells sto fr
    replace hfd := Lib.hid hfd
    replace hx := Lib.hid hx
    replace dro := Lib.hid dro
    go_enter Tryd.func42, Tryd.ntmps42
    go_wp2_with fail
    refine (hfd.out).mono ?_; rintro e w1 ⟨rfl, rfl⟩
    go_wp2_with fail
    go_ret
    exact ⟨rfl, dro.out⟩
end
end Go.Proofs.YtjoaifdjmdihoaaDoor
