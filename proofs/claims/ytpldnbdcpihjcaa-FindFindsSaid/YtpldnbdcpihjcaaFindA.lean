/-
  The examples of the law of finding (layer 23). No condition.
-/
import Derived.Test.YtpldnbdcpihjcaaFindP
import Derived.Test.YtpldnbdcpihjcaaCtlO
namespace Go.Proofs.Ytpldnbdcpihjcaa
set_option linter.unusedVariables false
open Go.ChangeShapes Go.WideShapes Go.ChangeAt Go.RowKit
open Go.ChangeMaps (setBlock)

theorem tinyVal : tinyC.val = .agg #[.int .i64 2, .int .i64 2, .int .i64 3, .int .i64 2, .int .i64 1, .int .u64 0] := rfl
def noCfg : PCfg := ⟨0, 0, 0, 0, 0, 0⟩
theorem noCfgVal : noCfg.val = .agg #[.int .i64 0, .int .i64 0, .int .i64 0, .int .i64 0, .int .i64 0, .int .u64 0] := rfl
def keyK : ByteArray := ⟨#[107]⟩
set_option maxRecDepth 100000 in
set_option maxHeartbeats 4000000 in
theorem awake23 (w : World) : Calls Try.prog 13 #[] w fun e w' => e = .returned (.bool true) ∧ Below w.heap.size w w' := by
  have hFd := fun W => field_any tinyC tiny_right W
  have hNw := fun W => findNew_any tinyC keyK (by decide) W
  have hNo := fun W => findNew_any noCfg keyK (by decide) W
  rw [tinyVal] at hFd hNw
  rw [noCfgVal] at hNo
  rw [show keyK = ⟨#[107]⟩ from rfl] at hNw hNo
  replace hFd := Lib.hid hFd
  replace hNw := Lib.hid hNw
  replace hNo := Lib.hid hNo
  go_enter Try.func13, Try.ntmps13
  go_wp2_with fail
  refine (tiny_any _).mono ?_; rintro e w1 ⟨rfl, hb1⟩
  go_wp2_with fail
  refine (hFd.out _).mono ?_; rintro e w2 ⟨hb, r, rfl, s2⟩
  obtain ⟨F2, o2⟩ := Own.of_sess s2
  clear s2
  have hz1 := hb1
  clear hb1
  replace o2 := Lib.hid o2
  replace hz1 := Lib.hid hz1
  go_wp2_with fail
  refine (tiny_any _).mono ?_; rintro e w3 ⟨rfl, hb3⟩
  have o3 := o2.out.keep hb3
  clear hb3
  have hF3 := o3.heap.own
  replace o3 := Lib.hid o3
  go_wp2_with fail
  refine (hNw.out _).mono ?_; rintro e w4 ⟨b, rfl, hN4, hbb, hb4⟩
  have hA := alone_own findRout (o3.out.keep hb4) (findR_fresh hN4) (fun k h1 h2 => by have := o2.out.heap.own k h1; have := hF3 k h1; omega) (fun k hk => by have := o3.out.below.size; omega) (by show (0 : Int) ≤ _; decide) (by show (1 : Int) ≤ _; decide) 9 (by decide)
  replace hA := Lib.hid hA
  replace hN4 := Lib.hid hN4
  replace hb4 := Lib.hid hb4
  go_wp2_with fail
  refine (hA.out).mono ?_; rintro e w5 ⟨xs, S5, s5, F5, D5, hRun, hstop, _, rfl, o5, hR5, hnew5, hch5, hoff5⟩
  obtain ⟨hl, hS5, ha5, hr5⟩ := find_alone tiny_right (field_shelved tinyC tiny_right r) hRun hstop (by decide)
  have hlk : ∃ p : Int, lookP keyK (plN tinyC keyK) (fun _ => none) tinyC.shelves.toNat 0 = (2, p, 1) := ⟨_, rfl⟩
  obtain ⟨pp, hlk⟩ := hlk
  have hl' : xs.length = 1 := by rw [hl]; exact congrArg (fun x => x.2.2) hlk
  rw [show lookP ⟨#[107]⟩ (plN tinyC ⟨#[107]⟩) (fun _ => none) tinyC.shelves.toNat 0 = (2, pp, 1) from hlk] at hr5
  rw [hl', show (!(findRout.act s5).2) = true from by show (!(PFind.act s5).2) = true; rw [ha5]; rfl]
  have hres := findResult_any hR5.2.2
  rw [hr5] at hres
  have hF5 := o5.heap.own
  have hft5 : S5.faults = 0 := by rw [hS5]; rfl
  clear hRun hstop hl hl' hnew5 hS5 ha5 hr5 hlk
  replace hch5 := Lib.hid hch5
  replace hres := Lib.hid hres
  replace hR5 := Lib.hid hR5
  replace o5 := Lib.hid o5
  replace hoff5 := Lib.hid hoff5
  go_wp2_with fail
  refine (hres.out).mono ?_; rintro e w6 ⟨rfl, hb6⟩
  have o6 := (o5.out.keep hb6).alloc (.cells #[.int .i64 2, .int .i64 pp] 35)
  have R6 := Blk.new w6 35 #[.int .i64 2, .int .i64 pp]
  have hsz6 := hb6.size
  clear hb6
  replace o6 := Lib.hid o6
  replace R6 := Lib.hid R6
  have hAn := fun W => findAct_nil W
  replace hAn := Lib.hid hAn
  go_wp2_with fail
  refine (hAn.out _).mono ?_; rintro e w7 ⟨rfl, hb7⟩
  have o7 := (o6.out.keep hb7).alloc (.cells #[.int .i64 0, .int .u64 0, .int .i64 0, .int .u64 0, .int .u64 0, .string ⟨#[]⟩] 31)
  have R7 := (R6.out.below hb7 (by simp)).alloc (.cells #[.int .i64 0, .int .u64 0, .int .i64 0, .int .u64 0, .int .u64 0, .string ⟨#[]⟩] 31)
  clear hb7
  replace o7 := Lib.hid o7
  replace R7 := Lib.hid R7
  go_wp2_with fail
  refine (hNo.out _).mono ?_; rintro e w8 ⟨b8, rfl, hN8, hbb8, hb8⟩
  have o8 := o7.out.keep hb8
  have R8 := R7.out.below hb8 R7.out.lt
  have hA8 := findAct_any hN8
  rw [show (newFind noCfg ⟨#[107]⟩).act = (noAct, false) from rfl] at hA8
  change Calls Try.prog _ _ _ (fun e w' => e = .returned (.tuple #[.agg #[.int .i64 0, .int .u64 0, .int .i64 0, .int .u64 0, .int .u64 0, .string ⟨#[]⟩], .bool false]) ∧ _) at hA8
  clear hb8
  replace o8 := Lib.hid o8
  replace R8 := Lib.hid R8
  replace hA8 := Lib.hid hA8
  replace hN8 := Lib.hid hN8
  go_wp2_with fail
  refine (hA8.out).mono ?_; rintro e w9 ⟨rfl, hb9⟩
  have o9 := (o8.out.keep hb9).alloc (.cells #[.int .i64 0, .int .u64 0, .int .i64 0, .int .u64 0, .int .u64 0, .string ⟨#[]⟩] 31)
  have R9 := (R8.out.below hb9 R8.out.lt).alloc (.cells #[.int .i64 0, .int .u64 0, .int .i64 0, .int .u64 0, .int .u64 0, .string ⟨#[]⟩] 31)
  have p0 := R9.cell 0
  have p1 := R9.cell 1
  have hfa := faults_any o9.heap
  rw [hft5] at hfa
  clear hb9
  replace o9 := Lib.hid o9
  replace R9 := Lib.hid R9
  replace hfa := Lib.hid hfa
  go_wp2_with fail
  refine (hfa.out).mono ?_; rintro e w10 ⟨rfl, rfl⟩
  go_wp2_with fail
  go_ret
  exact ⟨rfl, hz1.out.trans (o9.out.below.mono hz1.out.size)⟩
end Go.Proofs.Ytpldnbdcpihjcaa
