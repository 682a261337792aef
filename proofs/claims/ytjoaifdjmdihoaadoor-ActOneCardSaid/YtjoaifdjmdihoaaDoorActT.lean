/-
  The text of one act (layer 18), and the chapter's example. No condition.
-/
import Derived.Test.YtjoaifdjmdihoaaDoorRefU
import Derived.Test.YtjoaifdjmdihoaaDoorSess
namespace Go.Proofs.YtjoaifdjmdihoaaDoor
set_option linter.unusedVariables false
open Go.ChangeShapes Go.WideShapes Go.ChangeAt Go.RowKit
open Go.ChangeMaps (setBlock)

set_option maxRecDepth 100000 in
set_option maxHeartbeats 1000000 in
theorem small_2 (w : World) : Calls Tryd.prog 78 #[.int .i64 2] w fun e w' => e = .returned (.string ⟨#[50]⟩) ∧ w = w' := by
  go_enter Tryd.func78, Tryd.ntmps78
  go_wp2_with fail
  go_ret
  exact ⟨rfl, rfl⟩
set_option maxRecDepth 100000 in
set_option maxHeartbeats 1000000 in
theorem small_0 (w : World) : Calls Tryd.prog 78 #[.int .i64 0] w fun e w' => e = .returned (.string ⟨#[48]⟩) ∧ w = w' := by
  go_enter Tryd.func78, Tryd.ntmps78
  go_wp2_with fail
  go_ret
  exact ⟨rfl, rfl⟩
set_option maxRecDepth 100000 in
set_option maxHeartbeats 1000000 in
theorem small_5 (w : World) : Calls Tryd.prog 78 #[.int .i64 5] w fun e w' => e = .returned (.string ⟨#[53]⟩) ∧ w = w' := by
  go_enter Tryd.func78, Tryd.ntmps78
  go_wp2_with fail
  go_ret
  exact ⟨rfl, rfl⟩
set_option maxRecDepth 100000 in
set_option maxHeartbeats 1000000 in
theorem fmt_2 (w : World) : Calls Tryd.prog 50 #[.int .u64 2, .int .i64 10] w fun e w' => e = .returned (.string ⟨#[50]⟩) ∧ w = w' := by
  have hI : ∀ W, Calls Tryd.prog 61 #[.int .u64 2, .int .i64 10] W fun e w' => e = .returned (.string ⟨#[50]⟩) ∧ W = w' := by
    intro W
    have hs := small_2 W
    replace hs := Lib.hid hs
    go_enter Tryd.func61, Tryd.ntmps61
    go_wp2_with fail
    refine (hs.out).mono ?_; rintro e w1 ⟨rfl, rfl⟩
    go_wp2_with fail
    go_ret
    exact ⟨rfl, rfl⟩
  replace hI := Lib.hid hI
  go_enter Tryd.func50, Tryd.ntmps50
  go_wp2_with fail
  refine (hI.out _).mono ?_; rintro e w1 ⟨rfl, rfl⟩
  go_wp2_with fail
  go_ret
  exact ⟨rfl, rfl⟩
set_option maxRecDepth 100000 in
set_option maxHeartbeats 1000000 in
theorem fmt_0 (w : World) : Calls Tryd.prog 50 #[.int .u64 0, .int .i64 10] w fun e w' => e = .returned (.string ⟨#[48]⟩) ∧ w = w' := by
  have hI : ∀ W, Calls Tryd.prog 61 #[.int .u64 0, .int .i64 10] W fun e w' => e = .returned (.string ⟨#[48]⟩) ∧ W = w' := by
    intro W
    have hs := small_0 W
    replace hs := Lib.hid hs
    go_enter Tryd.func61, Tryd.ntmps61
    go_wp2_with fail
    refine (hs.out).mono ?_; rintro e w1 ⟨rfl, rfl⟩
    go_wp2_with fail
    go_ret
    exact ⟨rfl, rfl⟩
  replace hI := Lib.hid hI
  go_enter Tryd.func50, Tryd.ntmps50
  go_wp2_with fail
  refine (hI.out _).mono ?_; rintro e w1 ⟨rfl, rfl⟩
  go_wp2_with fail
  go_ret
  exact ⟨rfl, rfl⟩
set_option maxRecDepth 100000 in
set_option maxHeartbeats 1000000 in
theorem fmt_5 (w : World) : Calls Tryd.prog 50 #[.int .u64 5, .int .i64 10] w fun e w' => e = .returned (.string ⟨#[53]⟩) ∧ w = w' := by
  have hI : ∀ W, Calls Tryd.prog 61 #[.int .u64 5, .int .i64 10] W fun e w' => e = .returned (.string ⟨#[53]⟩) ∧ W = w' := by
    intro W
    have hs := small_5 W
    replace hs := Lib.hid hs
    go_enter Tryd.func61, Tryd.ntmps61
    go_wp2_with fail
    refine (hs.out).mono ?_; rintro e w1 ⟨rfl, rfl⟩
    go_wp2_with fail
    go_ret
    exact ⟨rfl, rfl⟩
  replace hI := Lib.hid hI
  go_enter Tryd.func50, Tryd.ntmps50
  go_wp2_with fail
  refine (hI.out _).mono ?_; rintro e w1 ⟨rfl, rfl⟩
  go_wp2_with fail
  go_ret
  exact ⟨rfl, rfl⟩
set_option maxRecDepth 100000 in
set_option maxHeartbeats 1000000 in
theorem name_2 (w : World) : Calls Tryd.prog 48 #[.int .i64 2] w fun e w' => e = .returned (.string ⟨#[115, 116, 111, 114, 101]⟩) ∧ Below w.heap.size w w' := by
  go_enter Tryd.func48, Tryd.ntmps48
  go_wp2_with fail
  go_ret
  refine ⟨rfl, ?_⟩
  (repeat first | exact Below.refl _ _ | assumption | refine Below.drew ?_ | refine below_drewN ?_ _ | refine Below.more_ ?_ _ | refine Below.setCell ?_ (by first | exact Nat.le_refl _ | (simp; done) | (simp; omega)) _)
set_option maxRecDepth 100000 in
set_option maxHeartbeats 1000000 in
theorem put_2 (cb : Nat) (w : World) (hB : Blk w cb 9 #[.string ⟨#[115, 116, 111, 114, 101]⟩]) : Calls Tryd.prog 49 #[.int .u64 2, .pointer (some ⟨cb, 0, none⟩)] w fun e w' => e = .returned (.tuple #[]) ∧ Blk w' cb 9 #[.string ⟨#[115, 116, 111, 114, 101, 32, 50]⟩] ∧ Chg (fun k => k = cb) w w' := by
  have c0 : w.cell? ⟨cb, 0, none⟩ = some (.string ⟨#[115, 116, 111, 114, 101]⟩) := hB.cell 0
  have f0 := hB.frozen 0
  have hf : ∀ v, Blk (w.setCell ⟨cb, 0, none⟩ (.string v)).drew cb 9 #[.string v] ∧ Chg (fun k => k = cb) w (w.setCell ⟨cb, 0, none⟩ (.string v)).drew := fun v =>
    ⟨((hB.set_ 0 _).eq_cs rfl).drew, ((Chg.refl (fun k => k = cb) w).setCell (p := ⟨cb, 0, none⟩) (.inl rfl) _).drew⟩
  have he : ((⟨#[115, 116, 111, 114, 101]⟩ : ByteArray) ++ (⟨#[32]⟩ ++ ⟨#[50]⟩)) = ⟨#[115, 116, 111, 114, 101, 32, 50]⟩ := by kernel_rfl
  replace hB := Lib.hid hB
  replace hf := Lib.hid hf
  replace he := Lib.hid he
  go_enter Tryd.func49, Tryd.ntmps49
  go_wp2_with fail
  go_region_with (go_at_call 50; refine (fmt_2 _).mono ?_; rintro e w1 ⟨rfl, rfl⟩)
  all_goals
    go_wp2_with fail
    rw [he.out]
    exact bodyPost_end (v := .tuple #[]) (results_none (by kernel_rfl) _ _ _) rfl ⟨rfl, hf.out _⟩
set_option maxRecDepth 100000 in
set_option maxHeartbeats 1000000 in
theorem put_0 (cb : Nat) (w : World) (hB : Blk w cb 9 #[.string ⟨#[115, 116, 111, 114, 101, 32, 50]⟩]) : Calls Tryd.prog 49 #[.int .u64 0, .pointer (some ⟨cb, 0, none⟩)] w fun e w' => e = .returned (.tuple #[]) ∧ Blk w' cb 9 #[.string ⟨#[115, 116, 111, 114, 101, 32, 50, 32, 48]⟩] ∧ Chg (fun k => k = cb) w w' := by
  have c0 : w.cell? ⟨cb, 0, none⟩ = some (.string ⟨#[115, 116, 111, 114, 101, 32, 50]⟩) := hB.cell 0
  have f0 := hB.frozen 0
  have hf : ∀ v, Blk (w.setCell ⟨cb, 0, none⟩ (.string v)).drew cb 9 #[.string v] ∧ Chg (fun k => k = cb) w (w.setCell ⟨cb, 0, none⟩ (.string v)).drew := fun v =>
    ⟨((hB.set_ 0 _).eq_cs rfl).drew, ((Chg.refl (fun k => k = cb) w).setCell (p := ⟨cb, 0, none⟩) (.inl rfl) _).drew⟩
  have he : ((⟨#[115, 116, 111, 114, 101, 32, 50]⟩ : ByteArray) ++ (⟨#[32]⟩ ++ ⟨#[48]⟩)) = ⟨#[115, 116, 111, 114, 101, 32, 50, 32, 48]⟩ := by kernel_rfl
  replace hB := Lib.hid hB
  replace hf := Lib.hid hf
  replace he := Lib.hid he
  go_enter Tryd.func49, Tryd.ntmps49
  go_wp2_with fail
  go_region_with (go_at_call 50; refine (fmt_0 _).mono ?_; rintro e w1 ⟨rfl, rfl⟩)
  all_goals
    go_wp2_with fail
    rw [he.out]
    exact bodyPost_end (v := .tuple #[]) (results_none (by kernel_rfl) _ _ _) rfl ⟨rfl, hf.out _⟩
set_option maxRecDepth 100000 in
set_option maxHeartbeats 1000000 in
theorem put_5 (cb : Nat) (w : World) (hB : Blk w cb 9 #[.string ⟨#[115, 116, 111, 114, 101, 32, 50, 32, 48]⟩]) : Calls Tryd.prog 49 #[.int .u64 5, .pointer (some ⟨cb, 0, none⟩)] w fun e w' => e = .returned (.tuple #[]) ∧ Blk w' cb 9 #[.string ⟨#[115, 116, 111, 114, 101, 32, 50, 32, 48, 32, 53]⟩] ∧ Chg (fun k => k = cb) w w' := by
  have c0 : w.cell? ⟨cb, 0, none⟩ = some (.string ⟨#[115, 116, 111, 114, 101, 32, 50, 32, 48]⟩) := hB.cell 0
  have f0 := hB.frozen 0
  have hf : ∀ v, Blk (w.setCell ⟨cb, 0, none⟩ (.string v)).drew cb 9 #[.string v] ∧ Chg (fun k => k = cb) w (w.setCell ⟨cb, 0, none⟩ (.string v)).drew := fun v =>
    ⟨((hB.set_ 0 _).eq_cs rfl).drew, ((Chg.refl (fun k => k = cb) w).setCell (p := ⟨cb, 0, none⟩) (.inl rfl) _).drew⟩
  have he : ((⟨#[115, 116, 111, 114, 101, 32, 50, 32, 48]⟩ : ByteArray) ++ (⟨#[32]⟩ ++ ⟨#[53]⟩)) = ⟨#[115, 116, 111, 114, 101, 32, 50, 32, 48, 32, 53]⟩ := by kernel_rfl
  replace hB := Lib.hid hB
  replace hf := Lib.hid hf
  replace he := Lib.hid he
  go_enter Tryd.func49, Tryd.ntmps49
  go_wp2_with fail
  go_region_with (go_at_call 50; refine (fmt_5 _).mono ?_; rintro e w1 ⟨rfl, rfl⟩)
  all_goals
    go_wp2_with fail
    rw [he.out]
    exact bodyPost_end (v := .tuple #[]) (results_none (by kernel_rfl) _ _ _) rfl ⟨rfl, hf.out _⟩
set_option maxRecDepth 100000 in
set_option maxHeartbeats 2000000 in
theorem text_any (w : World) : Calls Tryd.prog 27 #[.agg #[.int .i64 2, .int .u64 2, .int .i64 0, .int .u64 0, .int .u64 5, .string ⟨#[]⟩]] w fun e w' => e = .returned (.string ⟨#[115, 116, 111, 114, 101, 32, 50, 32, 48, 32, 53]⟩) ∧ Below w.heap.size w w' := by
  have hR : ∀ W, Calls Tryd.prog 9 #[.agg #[.int .i64 2, .int .u64 2, .int .i64 0, .int .u64 0, .int .u64 5, .string ⟨#[]⟩]] W fun e w' => e = .returned (.bool true) ∧ Below W.heap.size W w' := fun W => by
    have h := right_any ⟨2, 2, 0, 0, 5, ⟨#[]⟩⟩ W (by decide)
    rw [show PAct.right ⟨2, 2, 0, 0, 5, ⟨#[]⟩⟩ = true from by kernel_rfl] at h
    exact h
  have hW0 : Below w.heap.size w (w.alloc (.cells #[.int .i64 2, .int .u64 2, .int .i64 0, .int .u64 0, .int .u64 5, .string ⟨#[]⟩] 34)) := (Below.refl _ _).alloc (Nat.le_refl _) _
  have B1 := Blk.new w 34 #[.int .i64 2, .int .u64 2, .int .i64 0, .int .u64 0, .int .u64 5, .string ⟨#[]⟩]
  replace hR := Lib.hid hR
  replace hW0 := Lib.hid hW0
  replace B1 := Lib.hid B1
  go_enter Tryd.func27, Tryd.ntmps27
  go_wp2_with fail
  refine (hR.out _).mono ?_; rintro e w1 ⟨rfl, hb1⟩
  have C1 := B1.out.below hb1 (by simp)
  have hz1 := nx hW0.out (Nat.le_refl _) hb1
  have c0 := C1.cell 0
  replace C1 := Lib.hid C1
  replace hz1 := Lib.hid hz1
  clear hb1
  go_wp2_with fail
  refine (name_2 _).mono ?_; rintro e w2 ⟨rfl, hb2⟩
  have C2 := (C1.out.below hb2 C1.out.lt).alloc (.cells #[.string ⟨#[115, 116, 111, 114, 101]⟩] 9)
  have D2 := Blk.new w2 9 #[.string ⟨#[115, 116, 111, 114, 101]⟩]
  have hz2 := Below.more_ (Below.next_ hz1.out hb2) (.cells #[.string ⟨#[115, 116, 111, 114, 101]⟩] 9)
  have hs2 := (Below.next_ hz1.out hb2).size
  have hl2 := C1.out.lt
  have hs12 := hb2.size
  clear hb2 c0
  have c0 := C2.cell 0
  have c1 := C2.cell 1
  have c2 := C2.cell 2
  have c3 := C2.cell 3
  have c4 := C2.cell 4
  replace C2 := Lib.hid C2
  replace D2 := Lib.hid D2
  replace hz2 := Lib.hid hz2
  go_wp2_with fail
  refine (put_2 _ _ D2.out).mono ?_; rintro e w3 ⟨rfl, D3, K3⟩
  have C3 := C2.out.keep (K3.block _ C2.out.lt (by omega))
  have hz3 := hz2.out.trans (K3.below (fun i hi => by omega) hz2.out.size)
  clear K3 c0 c1 c2 c3 c4
  have c0 := C3.cell 0
  have c1 := C3.cell 1
  have c2 := C3.cell 2
  have c3 := C3.cell 3
  have c4 := C3.cell 4
  have hD3 := D3.cell 0
  replace C3 := Lib.hid C3
  replace D3 := Lib.hid D3
  replace hz3 := Lib.hid hz3
  go_wp2_with fail
  refine (put_0 _ _ D3.out).mono ?_; rintro e w4 ⟨rfl, D4, K4⟩
  have C4 := C3.out.keep (K4.block _ C3.out.lt (by omega))
  have hz4 := hz3.out.trans (K4.below (fun i hi => by omega) hz3.out.size)
  clear K4 hD3 c0 c1 c2 c3 c4
  have c0 := C4.cell 0
  have c1 := C4.cell 1
  have c2 := C4.cell 2
  have c3 := C4.cell 3
  have c4 := C4.cell 4
  have hD4 := D4.cell 0
  replace C4 := Lib.hid C4
  replace D4 := Lib.hid D4
  replace hz4 := Lib.hid hz4
  go_wp2_with fail
  refine (put_5 _ _ D4.out).mono ?_; rintro e w5 ⟨rfl, D5, K5⟩
  have C5 := C4.out.keep (K5.block _ C4.out.lt (by omega))
  have hz5 := hz4.out.trans (K5.below (fun i hi => by omega) hz4.out.size)
  clear K5 hD4 c0 c1 c2 c3 c4
  have c0 := C5.cell 0
  have c1 := C5.cell 1
  have c2 := C5.cell 2
  have c3 := C5.cell 3
  have c4 := C5.cell 4
  have hD5 := D5.cell 0
  replace C5 := Lib.hid C5
  replace D5 := Lib.hid D5
  replace hz5 := Lib.hid hz5
  go_wp2_with fail
  go_ret
  exact ⟨rfl, hz5.out⟩
end Go.Proofs.YtjoaifdjmdihoaaDoor
