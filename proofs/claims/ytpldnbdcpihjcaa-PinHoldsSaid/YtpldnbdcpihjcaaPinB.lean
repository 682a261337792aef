/-
  The examples of the law of pinning (layer 25). No condition.
-/
import Derived.Test.YtpldnbdcpihjcaaPinQ
import Derived.Test.YtpldnbdcpihjcaaPinG
import Derived.Test.YtpldnbdcpihjcaaCtlO
namespace Go.Proofs.Ytpldnbdcpihjcaa
set_option linter.unusedVariables false
open Go.ChangeShapes Go.WideShapes Go.ChangeAt Go.RowKit
open Go.ChangeMaps (setBlock)

theorem tinyV : tinyC.val = .agg #[.int .i64 2, .int .i64 2, .int .i64 3, .int .i64 2, .int .i64 1, .int .u64 0] := rfl
/-- All pins free. -/
theorem field_pins (c : PCfg) (h : c.Right) (r : Nat) : PinsAt (fieldS c r) (fun _ => 0) c.pins := fun j hj => field_ctl c r (3 + j) (by have := ctlSize_eq h; have := h.pins; have := h.cap; have := h.shelves; omega)
theorem PinsAt.other {S : PHeap} {x : Nat → Int} {n : Int} (h : PinsAt S x n) (v : Int) : PinsAt (S.set 1 0 v) x n := fun j hj => (h j hj).other v (by omega)
theorem PinsAt.put {S : PHeap} {x : Nat → Int} {n : Int} (h : PinsAt S x n) (k : Nat) (v : Int) : PinsAt (S.set 1 (3 + k) v) (fun j => if j = k then v else x j) n := fun j hj => by
  by_cases hjk : j = k
  · subst hjk
    simp only [if_true]
    exact (h j hj).same v
  · simp only [hjk, if_false]
    exact (h j hj).other v (by omega)
theorem actFld0 (a b c d e : Int) (s : ByteArray) (w : World) : (Instr.field 31 (.agg #[.int .i64 a, .int .u64 b, .int .i64 c, .int .u64 d, .int .u64 e, .string s]) 0).run Try.prog w = .ok (.int .i64 a) w := by kernel_rfl
set_option maxRecDepth 100000 in
set_option maxHeartbeats 4000000 in
theorem awake25 (w : World) : Calls Try.prog 32 #[] w fun e w' => e = .returned (.bool true) ∧ Below w.heap.size w w' := by
  have hFd := fun W => field_any tinyC tiny_right W
  have hNw := fun W => pinNew_ok tinyC tiny_right 3 (by decide) W
  have hPp := fun W => planPin_any tinyC tiny_right 1 (by decide) W
  have hFn := fun W => free_no tinyC tiny_right 5 (by decide) W
  have hFy := fun W => free_any tinyC tiny_right 1 (by decide) W
  rw [tinyV] at hFd hNw hPp hFn hFy
  rw [show (3 : Int) + 1 = 4 from rfl] at hPp hFy
  replace hFd := Lib.hid hFd
  replace hNw := Lib.hid hNw
  replace hPp := Lib.hid hPp
  replace hFn := Lib.hid hFn
  replace hFy := Lib.hid hFy
  have hfl := actFld0
  go_enter Try.func32, Try.ntmps32
  go_wp2_with fail
  refine (tiny_any _).mono ?_; rintro e w1 ⟨rfl, hb1⟩
  have B1 := Blk.new w1 24 #[.int .i64 2, .int .i64 2, .int .i64 3, .int .i64 2, .int .i64 1, .int .u64 0]
  have hz1 : Below w.heap.size w (w1.alloc (.cells #[.int .i64 2, .int .i64 2, .int .i64 3, .int .i64 2, .int .i64 1, .int .u64 0] 24)) := hb1.alloc hb1.size _
  clear hb1
  replace B1 := Lib.hid B1
  replace hz1 := Lib.hid hz1
  go_wp2_with fail
  refine (hFd.out _).mono ?_; rintro e w2 ⟨hb, r, rfl, s2⟩
  obtain ⟨F2, o2⟩ := Own.of_sess s2
  clear s2
  have hst := ctl_store o2.heap (field_ctl tinyC r 0 (by decide)) 6 (by decide)
  rw [show ((0 : Nat) : Int) = 0 from rfl] at hst
  replace o2 := Lib.hid o2
  replace hst := Lib.hid hst
  go_wp2_with fail
  refine (hst.out).mono ?_; rintro e w3 ⟨rfl, t3⟩
  have o3 := o2.out.turned t3
  have C3 := B1.out.below o3.below (by simp)
  have d0 := C3.cell 0
  have d1 := C3.cell 1
  have d2 := C3.cell 2
  have d3 := C3.cell 3
  have d4 := C3.cell 4
  have d5 := C3.cell 5
  have hF3 := o3.heap.own
  have hc3 : CtlAt ((fieldS tinyC r).set 1 0 6) 0 6 := (field_ctl tinyC r 0 (by decide)).same 6
  have hp3 : PinsAt ((fieldS tinyC r).set 1 0 6) (fun _ => 0) tinyC.pins := (field_pins tinyC tiny_right r).other 6
  generalize nw F2 w2 w3 = F3 at *
  have hft3 : ((fieldS tinyC r).set 1 0 6).faults = 0 := rfl
  have hla3 : ((fieldS tinyC r).set 1 0 6).last = 1 := rfl
  generalize (fieldS tinyC r).set 1 0 6 = S3 at *
  clear t3
  replace o3 := Lib.hid o3
  replace C3 := Lib.hid C3
  replace hc3 := Lib.hid hc3
  replace hp3 := Lib.hid hp3
  go_wp2_with fail
  refine (hNw.out _).mono ?_; rintro e w4 ⟨b, rfl, hN4, hbb, hb4⟩
  have hA := alone_own (pinRout tinyC) (o3.out.keep hb4) (pinR_fresh hN4) (fun k h1 h2 => by have := hF3 k h1; omega) (fun k hk => by have := o3.out.below.size; omega) (by rw [hft3]; decide) (by rw [hla3]; decide) 9 (by decide)
  clear d0 d1 d2 d3 d4 d5
  replace hA := Lib.hid hA
  replace hN4 := Lib.hid hN4
  replace hb4 := Lib.hid hb4
  go_wp2_with fail
  refine (hA.out).mono ?_; rintro e w5 ⟨xs, S5, s5, F5, D5, hRun, hstop, _, rfl, o5, hR5, hnew5, hch5, hoff5⟩
  have hstop' := hstop
  obtain ⟨hl, hS5, hp5, htk5, hpi5, hep5⟩ : xs.length = 3 ∧ S5 = S3.set 1 4 7 ∧ s5.part = 5 ∧ s5.taken = false ∧ s5.pin = 1 ∧ s5.epoch = 6 := by
    rcases pin_alone tiny_right (by decide) hc3.out hp3.out hRun (m := 9) hstop' (by decide) with ⟨j, i, ⟨i1, i2, i3, i4⟩, j1, j2, j3, j4, j5, j6, j7, j8⟩ | ⟨j1, _⟩
    · have hi0 : i = 0 := by
        rcases Int.lt_or_eq_of_le i1 with h | h
        · exact absurd rfl (i4 0 (Int.le_refl _) h)
        · exact h.symm
      subst hi0
      have hj : j = 1 := by
        have : ((3 : Int) % tinyC.pins + 0) % tinyC.pins = 1 := by decide
        omega
      subst hj
      exact ⟨by omega, j7, j3, j4, j5, j6⟩
    · exact absurd rfl (j1 0 (by decide))
  rw [hl, show (!((pinRout tinyC).act s5).2) = true from by show (!(PPin.act s5).2) = true; rw [PPin.act5 hp5]; rfl]
  have hres := pinResult_any hR5.2.2.lies
  rw [PPin.result5 hp5, hpi5, hep5, htk5] at hres
  have hctl : CtlAt S5 4 7 := by rw [hS5]; exact (hp3.out 1 (by decide)).same 7
  have hC5 := B1.out.below o5.below (by simp)
  have hF5 := o5.heap.own
  clear hRun hstop hstop' hl hnew5 hS5 hp5 htk5 hpi5 hep5
  replace hch5 := Lib.hid hch5
  replace hres := Lib.hid hres
  replace hR5 := Lib.hid hR5
  replace o5 := Lib.hid o5
  replace hctl := Lib.hid hctl
  replace hC5 := Lib.hid hC5
  replace hoff5 := Lib.hid hoff5
  go_wp2_with fail
  refine (hres.out).mono ?_; rintro e w6 ⟨rfl, hb6⟩
  have o6 := (o5.out.keep hb6).alloc (.cells #[.int .i64 1, .int .u64 6, .bool false] 76)
  have R6 := Blk.new w6 76 #[.int .i64 1, .int .u64 6, .bool false]
  have hC6 := (hC5.out.below hb6 hC5.out.lt).alloc (.cells #[.int .i64 1, .int .u64 6, .bool false] 76)
  have d0 := hC6.cell 0
  have d1 := hC6.cell 1
  have d2 := hC6.cell 2
  have d3 := hC6.cell 3
  have d4 := hC6.cell 4
  have d5 := hC6.cell 5
  have hsz6 := hb6.size
  have hF6 : ∀ k, F5 k → k < w6.heap.size := fun k hk => by have := hF5 k hk; omega
  clear hb6
  replace o6 := Lib.hid o6
  replace hC6 := Lib.hid hC6
  replace R6 := Lib.hid R6
  go_wp2_with fail
  refine (hPp.out _).mono ?_; rintro e w7 ⟨rfl, hb7⟩
  have o7 := o6.out.keep hb7
  have R7 := R6.out.below hb7 (by simp)
  have hC7 := hC6.out.below hb7 hC6.out.lt
  have hld := ctl_load o7.heap hctl.out
  rw [show ((4 : Nat) : Int) = 4 from rfl] at hld
  clear d0 d1 d2 d3 d4 d5
  clear hb7
  replace o7 := Lib.hid o7
  replace R7 := Lib.hid R7
  replace hC7 := Lib.hid hC7
  replace hld := Lib.hid hld
  go_wp2_with fail
  refine (hld.out).mono ?_; rintro e w8 ⟨rfl, t8⟩
  have o8 := o7.out.turned t8
  have hC8 := B1.out.below o8.below (by simp)
  have R8 := R7.out.keep (t8.2.block _ R7.out.lt (fun h => by have := hF6 _ h; omega))
  clear t8
  replace o8 := Lib.hid o8
  replace R8 := Lib.hid R8
  replace hC8 := Lib.hid hC8
  have hAn := fun W => pinAct_nil W
  replace hAn := Lib.hid hAn
  go_wp2_with fail
  refine (hAn.out _).mono ?_; rintro e w9 ⟨rfl, hb9⟩
  have o9 := (o8.out.keep hb9).alloc (.cells #[.int .i64 0, .int .u64 0, .int .i64 0, .int .u64 0, .int .u64 0, .string ⟨#[]⟩] 31)
  have R9 := (R8.out.below hb9 R8.out.lt).alloc (.cells #[.int .i64 0, .int .u64 0, .int .i64 0, .int .u64 0, .int .u64 0, .string ⟨#[]⟩] 31)
  have C9 := (hC8.out.below hb9 hC8.out.lt).alloc (.cells #[.int .i64 0, .int .u64 0, .int .i64 0, .int .u64 0, .int .u64 0, .string ⟨#[]⟩] 31)
  have d0 := C9.cell 0
  have d1 := C9.cell 1
  have d2 := C9.cell 2
  have d3 := C9.cell 3
  have d4 := C9.cell 4
  have d5 := C9.cell 5
  have p0 := R9.cell 0
  have p1 := R9.cell 1
  have p2 := R9.cell 2
  clear hb9
  replace o9 := Lib.hid o9
  replace R9 := Lib.hid R9
  replace C9 := Lib.hid C9
  go_wp2_with fail
  refine (hFn.out _).mono ?_; rintro e w10 ⟨rfl, hb10⟩
  have o10 := o9.out.keep hb10
  have C10 := C9.out.below hb10 C9.out.lt
  clear d0 d1 d2 d3 d4 d5
  clear p0 p1 p2
  have d0 := C10.cell 0
  have d1 := C10.cell 1
  have d2 := C10.cell 2
  have d3 := C10.cell 3
  have d4 := C10.cell 4
  have d5 := C10.cell 5
  clear hb10
  replace o10 := Lib.hid o10
  replace C10 := Lib.hid C10
  go_wp2_with fail
  refine (hFy.out _).mono ?_; rintro e w11 ⟨rfl, hb11⟩
  have o11 := o10.out.keep hb11
  clear hb11
  replace o11 := Lib.hid o11
  go_wp2_with fail
  go_ret
  exact ⟨rfl, hz1.out.trans (o11.out.below.mono hz1.out.size)⟩
end Go.Proofs.Ytpldnbdcpihjcaa
