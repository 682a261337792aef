/-
  The examples of the law of handing in (layer 29). No condition.
-/
import Derived.Test.YtfelkkbgbgnpaaaHandP
import Derived.Test.YtfelkkbgbgnpaaaHandF
import Derived.Test.YtfelkkbgbgnpaaaCtlO
namespace Go.Proofs.Ytfelkkbgbgnpaaa
set_option linter.unusedVariables false
open Go.ChangeShapes Go.WideShapes Go.ChangeAt Go.RowKit
open Go.ChangeMaps (setBlock)

theorem tinyVH : tinyC.val = .agg #[.int .i64 2, .int .i64 2, .int .i64 3, .int .i64 2, .int .i64 1, .int .u64 0] := rfl
set_option maxHeartbeats 1000000 in
theorem planRing_neg (c : PCfg) (h : c.Right) (w : World) : Calls Try.prog 42 #[c.val, .int .i64 (-1)] w fun e w' => e = .returned (.int .i64 (-1)) ∧ Below w.heap.size w w' := by
  have hR := fun W => right_cfg c W
  rw [(PCfg.right_iff c).2 h] at hR
  obtain ⟨a, b, s, q, t, z⟩ := c
  rw [show PCfg.val ⟨a, b, s, q, t, z⟩ = .agg #[.int .i64 a, .int .i64 b, .int .i64 s, .int .i64 q, .int .i64 t, .int .u64 z] from rfl] at *
  have hz : Below w.heap.size w (w.alloc (.cells #[.int .i64 a, .int .i64 b, .int .i64 s, .int .i64 q, .int .i64 t, .int .u64 z] 24)) := (Below.refl _ _).alloc (Nat.le_refl _) _
  replace hz := Lib.hid hz
  replace hR := Lib.hid hR
  replace h := Lib.hid h
  go_enter Try.func42, Try.ntmps42
  go_wp2_with fail
  refine (hR.out _).mono ?_; rintro e w1 ⟨rfl, hb⟩
  have hz1 := nx hz.out (Nat.le_refl _) hb
  clear hb
  replace hz1 := Lib.hid hz1
  go_wp2_with fail
  go_ret
  exact ⟨rfl, hz1.out⟩
set_option maxRecDepth 100000 in
set_option maxHeartbeats 2000000 in
theorem handPut_neg (c : PCfg) (h : c.Right) (record : Int) (w : World) : Calls Try.prog 89 #[c.val, .int .i64 (-1), .int .u64 record] w fun e w' => e = .returned (.agg #[.int .i64 0, .int .u64 0, .int .i64 0, .int .u64 0, .int .u64 0, .string ⟨#[]⟩]) ∧ Below w.heap.size w w' := by
  have hR := fun W => planRing_neg c h W
  obtain ⟨a, b, s, q, t, z⟩ := c
  rw [show PCfg.val ⟨a, b, s, q, t, z⟩ = .agg #[.int .i64 a, .int .i64 b, .int .i64 s, .int .i64 q, .int .i64 t, .int .u64 z] from rfl] at *
  have hz : Below w.heap.size w ((w.alloc (.cells #[.int .i64 a, .int .i64 b, .int .i64 s, .int .i64 q, .int .i64 t, .int .u64 z] 24)).alloc (.cells #[.int .i64 0, .int .u64 0, .int .i64 0, .int .u64 0, .int .u64 0, .string ⟨#[]⟩] 31)) := ((Below.refl _ _).alloc (Nat.le_refl _) _).alloc (by simp) _
  have B1 := Blk.new (w.alloc (.cells #[.int .i64 a, .int .i64 b, .int .i64 s, .int .i64 q, .int .i64 t, .int .u64 z] 24)) 31 #[.int .i64 0, .int .u64 0, .int .i64 0, .int .u64 0, .int .u64 0, .string ⟨#[]⟩]
  simp only [World.size_alloc] at B1
  replace hz := Lib.hid hz
  replace B1 := Lib.hid B1
  replace hR := Lib.hid hR
  replace h := Lib.hid h
  go_enter Try.func89, Try.ntmps89
  go_wp2_with fail
  refine (hR.out _).mono ?_; rintro e w1 ⟨rfl, hb⟩
  have hz1 := nx hz.out (Nat.le_refl _) hb
  have B2 := B1.out.below hb (by simp)
  have c0 := B2.cell 0
  have c1 := B2.cell 1
  have c2 := B2.cell 2
  have c3 := B2.cell 3
  have c4 := B2.cell 4
  have c5 := B2.cell 5
  have f0 := B2.frozen 0
  have f1 := B2.frozen 1
  have f2 := B2.frozen 2
  have f3 := B2.frozen 3
  have f4 := B2.frozen 4
  have f5 := B2.frozen 5
  clear hb
  replace B2 := Lib.hid B2
  replace hz1 := Lib.hid hz1
  go_wp2_with fail
  refine gen_world (α := fun W' => bodyPost _ _ _ _ _ W') (fun W' => Blk W' (w.heap.size + 1) 31 #[.int .i64 0, .int .u64 0, .int .i64 0, .int .u64 0, .int .u64 0, .string ⟨#[]⟩] ∧ Below w.heap.size w W') ⟨Blk.eq_cs ((((((B2.out.set_ 0 _).set_ 1 _).set_ 2 _).set_ 3 _).set_ 4 _).set_ 5 _) rfl, ?_⟩ ?_
  · repeat (refine Below.setCell ?_ (by show w.heap.size ≤ w.heap.size + 1; omega) _)
    exact hz1.out
  rintro W' ⟨g1, g2⟩
  have e0 := g1.cell 0
  have e1 := g1.cell 1
  have e2 := g1.cell 2
  have e3 := g1.cell 3
  have e4 := g1.cell 4
  have e5 := g1.cell 5
  exact bodyPost_ret (v := .agg #[.int .i64 0, .int .u64 0, .int .i64 0, .int .u64 0, .int .u64 0, .string ⟨#[]⟩]) (by simp [results, Try.results89, go_sem, e0, e1, e2, e3, e4, e5]) rfl ⟨rfl, g2⟩
theorem handR_fresh {w w0 : World} {b : Nat} {s : PHand} (h0 : w.heap.size ≤ b) (hb : b < w0.heap.size) (h : HandIn w0 (fun k => w.heap.size ≤ k ∧ k < w0.heap.size) b s) : HandR w0 (fun k => w.heap.size ≤ k ∧ k < w0.heap.size) b s := ⟨fun k hk => hk.2, ⟨h0, hb⟩, h⟩
theorem HandIn.lt {w : World} {Q : Nat → Prop} {b : Nat} {s : PHand} (h : HandIn w Q b s) : b < w.heap.size := by
  obtain ⟨pv, h1, _⟩ := h
  exact h1.lt
theorem field_ring (c : PCfg) (hc : c.Right) (r : Nat) : ∀ j : Nat, 3 + c.pins ≤ j → (j : Int) < 3 + c.pins + c.cap → ∃ y, CtlAt (fieldS c r) j y := fun j h1 h2 => ⟨0, field_ctl c r j (by have := ctlSize_eq hc; have := hc.shelves; omega)⟩
def opText : ByteArray := ⟨#[111, 112]⟩
set_option maxRecDepth 100000 in
set_option maxHeartbeats 4000000 in
theorem awake29 (w : World) : Calls Try.prog 34 #[] w fun e w' => e = .returned (.bool true) ∧ Below w.heap.size w w' := by
  have hFd := fun W => field_any tinyC tiny_right W
  have hNw := fun W => handNew_any tinyC opText (by decide) W
  have hRg := fun W => planRing_any tinyC tiny_right 0 (by decide) W
  have hPn := fun W => handPut_neg tinyC tiny_right 5 W
  have hAn := fun W => handAct_nil W
  rw [show ringAt tinyC 0 = 5 from by decide] at hRg
  rw [tinyVH] at hFd hNw hRg hPn
  rw [show opText = ⟨#[111, 112]⟩ from rfl] at hNw
  replace hFd := Lib.hid hFd
  replace hNw := Lib.hid hNw
  replace hRg := Lib.hid hRg
  replace hPn := Lib.hid hPn
  replace hAn := Lib.hid hAn
  go_enter Try.func34, Try.ntmps34
  go_wp2_with fail
  refine (tiny_any _).mono ?_; rintro e w1 ⟨rfl, hb1⟩
  have B1 := Blk.new w1 24 #[.int .i64 2, .int .i64 2, .int .i64 3, .int .i64 2, .int .i64 1, .int .u64 0]
  have hz1 : Below w.heap.size w (w1.alloc (.cells #[.int .i64 2, .int .i64 2, .int .i64 3, .int .i64 2, .int .i64 1, .int .u64 0] 24)) := hb1.alloc hb1.size _
  clear hb1
  replace B1 := Lib.hid B1
  replace hz1 := Lib.hid hz1
  go_wp2_with fail
  refine (hFd.out _).mono ?_; rintro e w2 ⟨hb, r, rfl, s2⟩
  have C2 := B1.out.below s2.below (by simp)
  obtain ⟨F2, o2⟩ := Own.of_sess s2
  have hF2 := o2.heap.own
  clear s2
  replace o2 := Lib.hid o2
  replace C2 := Lib.hid C2
  have d0 := C2.out.cell 0
  have d1 := C2.out.cell 1
  have d2 := C2.out.cell 2
  have d3 := C2.out.cell 3
  have d4 := C2.out.cell 4
  have d5 := C2.out.cell 5
  go_wp2_with fail
  refine (hNw.out _).mono ?_; rintro e w3 ⟨b, rfl, hN3, hbb, hb3⟩
  have hbl3 := hN3.lt
  have hA := alone_own handRout (o2.out.keep hb3) (handR_fresh hbb hbl3 hN3) (fun k h1 h2 => by have := hF2 k h1; omega) (fun k hk => by have := o2.out.below.size; omega) (by show (0 : Int) ≤ _; decide) (by show (1 : Int) ≤ _; decide) 9 (by decide)
  have hsz3 := hb3.size
  clear d0 d1 d2 d3 d4 d5
  replace hA := Lib.hid hA
  replace hN3 := Lib.hid hN3
  replace hb3 := Lib.hid hb3
  go_wp2_with fail
  refine (hA.out).mono ?_; rintro e w4 ⟨xs, S4, s4', F4, D4, hRun, hstop, _, rfl, o4, hR4, hnew4, hch4, hoff4⟩
  obtain ⟨r4, hp4, hrec4, hcase4⟩ := hand_alone tinyC tiny_right ⟨#[111, 112]⟩ (by decide) (field_ctl tinyC r 1 (by decide)) (field_ring tinyC tiny_right r) hRun hstop (by decide)
  rcases hcase4 with ⟨_, hl, hfu, htk, hS4⟩ | ⟨hno, _⟩
  case inr => exact absurd hno (by decide)
  rw [show ringAt tinyC (cameOf 0) = 5 from by decide, show entV 0 tinyC.cap = 65537 from by decide] at hS4
  rw [hl, show (!(handRout.act s4').2) = true from by show (!(PHand.act s4').2) = true; rw [PHand.act4 hp4]; rfl]
  have hres := handResult_any hR4.2.2
  rw [show s4'.result = ((false, 0, 2), true) from by unfold PHand.result; rw [if_pos hp4, hfu, htk, hrec4]; rfl] at hres
  have hctl : CtlAt S4 5 2 := by rw [hS4]; exact (((field_ctl tinyC r 5 (by decide)).moreN 2 r4 _).other _ (by decide)).same _
  have hwd : S4.words 2 = (⟨#[111, 112]⟩, S4) := by rw [hS4]; rfl
  have hfd : (S4.find 2).isSome = true := by rw [hS4]; rfl
  have hft4 : S4.faults < 9223372036854775807 := by rw [hS4]; show (0 : Int) < _; decide
  have hC4 : Blk w4 w1.heap.size 24 #[.int .i64 2, .int .i64 2, .int .i64 3, .int .i64 2, .int .i64 1, .int .u64 0] := B1.out.below o4.below (by simp)
  clear hRun hstop hl hnew4 hS4 hp4 hrec4 hfu htk
  replace hch4 := Lib.hid hch4
  replace hres := Lib.hid hres
  replace hR4 := Lib.hid hR4
  replace o4 := Lib.hid o4
  replace hctl := Lib.hid hctl
  replace hC4 := Lib.hid hC4
  replace hoff4 := Lib.hid hoff4
  replace hwd := Lib.hid hwd
  replace hfd := Lib.hid hfd
  go_wp2_with fail
  refine (hres.out).mono ?_; rintro e w5 ⟨rfl, hb5⟩
  have o5 := (o4.out.keep hb5).alloc (.cells #[.bool false, .int .i64 0, .int .u64 2] 81)
  have R5 := (Blk.new w5 81 #[.bool false, .int .i64 0, .int .u64 2])
  have hC5 := (hC4.out.below hb5 hC4.out.lt).alloc (.cells #[.bool false, .int .i64 0, .int .u64 2] 81)
  have d0 := hC5.cell 0
  have d1 := hC5.cell 1
  have d2 := hC5.cell 2
  have d3 := hC5.cell 3
  have d4 := hC5.cell 4
  have d5 := hC5.cell 5
  have hsz5 := hb5.size
  clear hb5
  replace o5 := Lib.hid o5
  replace hC5 := Lib.hid hC5
  replace R5 := Lib.hid R5
  go_wp2_with fail
  refine (hRg.out _).mono ?_; rintro e w6 ⟨rfl, hb6⟩
  have o6 := o5.out.keep hb6
  have R6 := R5.out.below hb6 R5.out.lt
  have hC6 := hC5.out.below hb6 hC5.out.lt
  have hld := ctl_load o6.heap hctl.out
  clear hb6 d0 d1 d2 d3 d4 d5
  replace o6 := Lib.hid o6
  replace R6 := Lib.hid R6
  replace hC6 := Lib.hid hC6
  replace hld := Lib.hid hld
  go_wp2_with fail
  refine (hld.out).mono ?_; rintro e w7 ⟨rfl, t7⟩
  have o7 := o6.out.turned t7
  have hnR : ¬ F4 w5.heap.size := fun h => by have := o4.out.heap.own _ h; omega
  have hR6l := R6.out.lt
  have R7 := R6.out.keep (t7.2.block _ hR6l hnR)
  have hnR7 : ¬ nw F4 w6 w7 w5.heap.size := fun h => by
    rcases h with h | h
    · exact hnR h
    · omega
  have hC7 : Blk w7 w1.heap.size 24 #[.int .i64 2, .int .i64 2, .int .i64 3, .int .i64 2, .int .i64 1, .int .u64 0] := B1.out.below o7.below (by simp)
  clear t7
  generalize nw F4 w6 w7 = F7 at *
  have hwo := words_all o7.heap 2 (by decide) hft4
  rw [hwd.out, hfd.out] at hwo
  have hF7 := o7.heap.own
  replace o7 := Lib.hid o7
  replace R7 := Lib.hid R7
  replace hC7 := Lib.hid hC7
  replace hwo := Lib.hid hwo
  go_wp2_with fail
  refine (hwo.out).mono ?_; rintro e w8 ⟨rfl, t8⟩
  have o8 := o7.out.turned t8
  have R8 := R7.out.keep (t8.2.block _ R7.out.lt hnR7)
  have hC8 : Blk w8 w1.heap.size 24 #[.int .i64 2, .int .i64 2, .int .i64 3, .int .i64 2, .int .i64 1, .int .u64 0] := B1.out.below o8.below (by simp)
  clear t8
  replace o8 := Lib.hid o8
  replace R8 := Lib.hid R8
  replace hC8 := Lib.hid hC8
  go_wp2_with fail
  refine (hAn.out _).mono ?_; rintro e w9 ⟨rfl, hb9⟩
  have o9 := (o8.out.keep hb9).alloc (.cells #[.int .i64 0, .int .u64 0, .int .i64 0, .int .u64 0, .int .u64 0, .string ⟨#[]⟩] 31)
  have R9 := (R8.out.below hb9 R8.out.lt).alloc (.cells #[.int .i64 0, .int .u64 0, .int .i64 0, .int .u64 0, .int .u64 0, .string ⟨#[]⟩] 31)
  have hC9 := (hC8.out.below hb9 hC8.out.lt).alloc (.cells #[.int .i64 0, .int .u64 0, .int .i64 0, .int .u64 0, .int .u64 0, .string ⟨#[]⟩] 31)
  have d0 := hC9.cell 0
  have d1 := hC9.cell 1
  have d2 := hC9.cell 2
  have d3 := hC9.cell 3
  have d4 := hC9.cell 4
  have d5 := hC9.cell 5
  have p0 := R9.cell 0
  have p1 := R9.cell 1
  have p2 := R9.cell 2
  clear hb9
  replace o9 := Lib.hid o9
  replace R9 := Lib.hid R9
  replace hC9 := Lib.hid hC9
  go_wp2_with fail
  refine (hPn.out _).mono ?_; rintro e w10 ⟨rfl, hb10⟩
  have o10 := o9.out.keep hb10
  go_wp2_with fail
  go_ret
  exact ⟨rfl, hz1.out.trans (o10.below.mono hz1.out.size)⟩
end Go.Proofs.Ytfelkkbgbgnpaaa
