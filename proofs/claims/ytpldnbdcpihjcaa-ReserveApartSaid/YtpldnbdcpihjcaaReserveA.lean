/-
  The walk over the law of reserving's acts (layer 28). No condition.
-/
import Derived.Test.YtpldnbdcpihjcaaReserveP
import Derived.Test.YtpldnbdcpihjcaaReserveF
import Derived.Test.YtpldnbdcpihjcaaFresh
import Derived.Test.YtpldnbdcpihjcaaTapeE
namespace Go.Proofs.Ytpldnbdcpihjcaa
set_option linter.unusedVariables false
open Go.ChangeShapes Go.WideShapes Go.ChangeAt Go.RowKit
open Go.ChangeMaps (setBlock)

theorem resR_fresh {w : World} {b : Nat} {s : PRes} (h : ResIn w b s) : ResR w (fun k => k = b) b s := ⟨fun k hk => by rw [hk]; exact h.blk.lt, rfl, h⟩
theorem tiny_val : tinyC.val = .agg #[.int .i64 2, .int .i64 2, .int .i64 3, .int .i64 2, .int .i64 1, .int .u64 0] := rfl
set_option maxRecDepth 100000 in
set_option maxHeartbeats 4000000 in
theorem awake28 (w : World) : Calls Try.prog 43 #[] w fun e w' => e = .returned (.bool true) ∧ Below w.heap.size w w' := by
  have hFd := fun W => field_any tinyC tiny_right W
  have hNw := fun W => resNew_any tinyC W
  rw [tiny_val] at hFd hNw
  replace hFd := Lib.hid hFd
  replace hNw := Lib.hid hNw
  go_enter Try.func43, Try.ntmps43
  go_wp2_with fail
  refine (tiny_any _).mono ?_; rintro e w1 ⟨rfl, hb1⟩
  have B1 := Blk.new w1 24 #[.int .i64 2, .int .i64 2, .int .i64 3, .int .i64 2, .int .i64 1, .int .u64 0]
  have hz1 : Below w.heap.size w (w1.alloc (.cells #[.int .i64 2, .int .i64 2, .int .i64 3, .int .i64 2, .int .i64 1, .int .u64 0] 24)) := hb1.alloc hb1.size _
  clear hb1
  replace B1 := Lib.hid B1
  replace hz1 := Lib.hid hz1
  go_wp2_with fail
  refine (hFd.out _).mono ?_; rintro e w2 ⟨hb, r, rfl, s2⟩
  have C2 := B1.out.below s2.below (by simp)
  obtain ⟨F2, o2⟩ := Own.of_sess s2
  have hF2 := o2.heap.own
  clear s2
  replace o2 := Lib.hid o2
  replace C2 := Lib.hid C2
  have d0 := C2.out.cell 0
  have d1 := C2.out.cell 1
  have d2 := C2.out.cell 2
  have d3 := C2.out.cell 3
  have d4 := C2.out.cell 4
  have d5 := C2.out.cell 5
  go_wp2_with fail
  refine (hNw.out _).mono ?_; rintro e w3 ⟨b, rfl, hN3, hbb, hb3⟩
  have hA := alone_own resRout (o2.out.keep hb3) (resR_fresh hN3) (fun k h1 h2 => by have := hF2 k h1; omega) (fun k hk => by have := o2.out.below.size; omega) (by show (0 : Int) ≤ _; decide) (by show (1 : Int) ≤ _; decide) 9 (by decide)
  have hsz3 := hb3.size
  have hbl3 := hN3.blk.lt
  clear d0 d1 d2 d3 d4 d5
  replace hA := Lib.hid hA
  replace hN3 := Lib.hid hN3
  replace hb3 := Lib.hid hb3
  go_wp2_with fail
  refine (hA.out).mono ?_; rintro e w4 ⟨xs, S4, s4', F4, D4, hRun, hstop, _, rfl, o4, hR4, hnew4, hch4, hoff4⟩
  rcases res_alone tinyC tiny_right (field_ctl tinyC r 1 (by decide)) hRun hstop (by decide) with ⟨_, hl, rfl, rfl⟩ | ⟨hno, _⟩
  case inr => exact absurd hno (by decide)
  rw [hl, show (!(resRout.act (resOk tinyC 0)).2) = true from rfl]
  have hres := resResult_any hR4.2.2
  rw [show (resOk tinyC 0).result = ((false, 0), true) from rfl] at hres
  have hctl := (field_ctl tinyC r 1 (by decide)).same (entV 0 tinyC.cap)
  rw [show entV 0 tinyC.cap = 65537 from by decide] at o4 hctl
  have hC4 : Blk w4 w1.heap.size 24 #[.int .i64 2, .int .i64 2, .int .i64 3, .int .i64 2, .int .i64 1, .int .u64 0] := B1.out.below o4.below (by simp)
  have hF4 := o4.heap.own
  clear hRun hstop hl hnew4
  replace hch4 := Lib.hid hch4
  replace hres := Lib.hid hres
  replace hR4 := Lib.hid hR4
  replace o4 := Lib.hid o4
  replace hctl := Lib.hid hctl
  replace hC4 := Lib.hid hC4
  replace hoff4 := Lib.hid hoff4
  go_wp2_with fail
  refine (hres.out).mono ?_; rintro e w5 ⟨rfl, hb5⟩
  have o5 := (o4.out.keep hb5).alloc (.cells #[.bool false, .int .i64 0] 97)
  have R5 := (Blk.new w5 97 #[.bool false, .int .i64 0])
  have hC5 := (hC4.out.below hb5 hC4.out.lt).alloc (.cells #[.bool false, .int .i64 0] 97)
  have d0 := hC5.cell 0
  have d1 := hC5.cell 1
  have d2 := hC5.cell 2
  have d3 := hC5.cell 3
  have d4 := hC5.cell 4
  have d5 := hC5.cell 5
  have hsz5 := hb5.size
  clear hb5
  replace o5 := Lib.hid o5
  replace hC5 := Lib.hid hC5
  replace R5 := Lib.hid R5
  go_wp2_with fail
  refine (hNw.out _).mono ?_; rintro e w6 ⟨b6, rfl, hN6, hbb6, hb6⟩
  simp only [World.size_alloc] at hbb6
  have hA6 := alone_own resRout (o5.out.keep hb6) (resR_fresh hN6) (fun k h1 h2 => by have := hF4 k h1; omega) (fun k hk => by have := o5.out.below.size; simp only [World.size_alloc] at this; simp; omega) (by show (0 : Int) ≤ _; decide) (by show (1 : Int) ≤ _; decide) 9 (by decide)
  have R6 := R5.out.below hb6 (by simp)
  have hsz6 := hb6.size
  simp only [World.size_alloc] at hsz6
  clear d0 d1 d2 d3 d4 d5
  replace hA6 := Lib.hid hA6
  replace hN6 := Lib.hid hN6
  replace hb6 := Lib.hid hb6
  replace R6 := Lib.hid R6
  go_wp2_with fail
  refine (hA6.out).mono ?_; rintro e w7 ⟨xs7, S7, s7', F7, D7, hRun, hstop, _, rfl, o7, hR7, hnew7, hch7, hoff7⟩
  rcases res_alone tinyC tiny_right hctl.out hRun hstop (by decide) with ⟨_, hl, rfl, rfl⟩ | ⟨hno, _⟩
  case inr => exact absurd hno (by decide)
  have hctl7 := hctl.out.same (entV 65537 tinyC.cap)
  rw [show entV 65537 tinyC.cap = 131074 from by decide] at o7 hctl7
  have hC7 : Blk w7 w1.heap.size 24 #[.int .i64 2, .int .i64 2, .int .i64 3, .int .i64 2, .int .i64 1, .int .u64 0] := B1.out.below o7.below (by simp)
  have hnR : ¬ (F4 w5.heap.size ∨ w5.heap.size = b6) := fun h => by
    rcases h with h | h
    · have := hF4 _ h; omega
    · omega
  have R7 := R6.out.keep (hch7.block _ R6.out.lt hnR)
  have hnR7 : ¬ F7 w5.heap.size := fun h => by
    rcases hnew7 _ (.inl h) with h | h | h
    · exact hnR (.inl h)
    · exact hnR (.inr h)
    · omega
  have hF7 := o7.heap.own
  have d0 := hC7.cell 0
  have d1 := hC7.cell 1
  have d2 := hC7.cell 2
  have d3 := hC7.cell 3
  have d4 := hC7.cell 4
  have d5 := hC7.cell 5
  have hsz7 := hch7.size
  clear hRun hstop hnew7
  replace hch7 := Lib.hid hch7
  replace o7 := Lib.hid o7
  replace hctl7 := Lib.hid hctl7
  replace hC7 := Lib.hid hC7
  replace hR7 := Lib.hid hR7
  replace R7 := Lib.hid R7
  replace hoff7 := Lib.hid hoff7
  replace hnR := Lib.hid hnR
  go_wp2_with fail
  refine (hNw.out _).mono ?_; rintro e w8 ⟨b8, rfl, hN8, hbb8, hb8⟩
  have hA8 := alone_own resRout (o7.out.keep hb8) (resR_fresh hN8) (fun k h1 h2 => by have := hF7 k h1; omega) (fun k hk => by have := o7.out.below.size; simp only [World.size_alloc] at this; simp; omega) (by show (0 : Int) ≤ _; decide) (by show (1 : Int) ≤ _; decide) 9 (by decide)
  have R8 := R7.out.below hb8 R7.out.lt
  have hR7l := R7.out.lt
  clear d0 d1 d2 d3 d4 d5
  replace hA8 := Lib.hid hA8
  replace hN8 := Lib.hid hN8
  replace hb8 := Lib.hid hb8
  replace R8 := Lib.hid R8
  go_wp2_with fail
  refine (hA8.out).mono ?_; rintro e w9 ⟨xs9, S9, s9', F9, D9, hRun, hstop, _, rfl, o9, hR9, hnew9, hch9, hoff9⟩
  rcases res_alone tinyC tiny_right hctl7.out hRun hstop (by decide) with ⟨hno, _⟩ | ⟨_, hl9, rfl, rfl⟩
  case inl => exact absurd hno (by decide)
  have hres9 := resResult_any hR9.2.2
  rw [show (resFull tinyC).result = ((true, 0), true) from rfl] at hres9
  have R9 := R8.out.keep (hch9.block _ R8.out.lt (fun h => by
    rcases h with h | h
    · exact hnR7 h
    · omega))
  clear hRun hstop hnew9
  replace hch9 := Lib.hid hch9
  replace hres9 := Lib.hid hres9
  replace hR9 := Lib.hid hR9
  replace o9 := Lib.hid o9
  replace R9 := Lib.hid R9
  replace hoff9 := Lib.hid hoff9
  go_wp2_with fail
  refine (hres9.out).mono ?_; rintro e w10 ⟨rfl, hb10⟩
  have o10 := (o9.out.keep hb10).alloc (.cells #[.bool true, .int .i64 0] 97)
  have R10 := (R9.out.below hb10 R9.out.lt).alloc (.cells #[.bool true, .int .i64 0] 97)
  have Y10 := Blk.new w10 97 #[.bool true, .int .i64 0]
  clear hb10
  replace o10 := Lib.hid o10
  replace R10 := Lib.hid R10
  replace Y10 := Lib.hid Y10
  have hAn := fun W => resAct_nil W
  rw [show noAct.val = .agg #[.int .i64 0, .int .u64 0, .int .i64 0, .int .u64 0, .int .u64 0, .string ⟨#[]⟩] from rfl] at hAn
  replace hAn := Lib.hid hAn
  go_wp2_with fail
  refine (hAn.out _).mono ?_; rintro e w11 ⟨rfl, hb11⟩
  have o11 := o10.out.keep hb11
  have R11 := R10.out.below hb11 R10.out.lt
  have Y11 := Y10.out.below hb11 Y10.out.lt
  have q0 := R11.cell 0
  have q1 := R11.cell 1
  have y0 := Y11.cell 0
  have hl1 := R11.lt
  have hl2 := Y11.lt
  clear hb11
  replace o11 := Lib.hid o11
  replace R11 := Lib.hid R11
  replace Y11 := Lib.hid Y11
  go_wp2_with fail
  refine (tries_nil _).mono ?_; rintro e w12 ⟨rfl, rfl⟩
  go_wp2_with fail
  go_ret
  exact ⟨rfl, (hz1.out.trans (o11.out.below.mono hz1.out.size)).alloc (by have := o11.out.below.size; have := hz1.out.size; omega) _⟩
end Go.Proofs.Ytpldnbdcpihjcaa
