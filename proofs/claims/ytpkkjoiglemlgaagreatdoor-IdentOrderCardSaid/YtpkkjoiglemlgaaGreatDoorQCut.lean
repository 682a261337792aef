/-
  strings.Cut and strings.Split at a separator of one byte: internal/bytealg.MaxLen is not read. No condition.
-/
import Derived.Test.YtpkkjoiglemlgaaGreatDoorQLineP
import Derived.Test.YtpkkjoiglemlgaaGreatDoorKits
import Derived.Test.YtpkkjoiglemlgaaGreatDoorRws
import Derived.Lib.IndexBytes
namespace Go.Proofs.YtpkkjoiglemlgaaGreatDoor
set_option linter.unusedVariables false
open Go.RowKit Go.Extern.Stop Go.Stop Go.Extern Go.ChangeShapes

theorem index1_any (s : ByteArray) (c : UInt8) (w : World) : Calls Tryz.prog 100 #[.string s, .string ⟨#[c]⟩] w fun e w' => e = .returned (.int .i64 (Lib.index s.data.toList [c])) ∧ w = w' := by
  refine (Tryz.stringslite_Index_one s c w).mono ?_
  rintro e w' ⟨rfl, rfl⟩
  rw [Lib.index_one]
  exact ⟨rfl, rfl⟩
set_option maxHeartbeats 1000000 in
set_option maxRecDepth 100000 in
theorem cutMiss0 (s : ByteArray) (c : UInt8) (w : World) (h : Lib.index s.data.toList [c] = -1) :
    Calls Tryz.prog 67 #[.string s, .string ⟨#[c]⟩] w fun e w' => e = .returned (.tuple #[.string s, .string ⟨#[]⟩, .bool false]) ∧ w = w' := by
  have hI := index1_any s c w
  rw [h] at hI
  replace hI := Lib.hid hI
  replace h := Lib.hid h
  go_enter Tryz.func67, Tryz.ntmps67
  go_wp2_with fail
  refine (hI.out).mono ?_; rintro e w' ⟨rfl, rfl⟩
  go_wp2_with fail
  go_ret3
  exact ⟨rfl, rfl⟩
set_option maxHeartbeats 1000000 in
set_option maxRecDepth 100000 in
theorem cutHit0 (s : ByteArray) (c : UInt8) (i : Nat) (w : World) (h : Lib.index s.data.toList [c] = i) (hi : i < s.size) (h63 : s.size ≤ 1000000000) :
    Calls Tryz.prog 67 #[.string s, .string ⟨#[c]⟩] w fun e w' => e = .returned (.tuple #[.string (s.extract 0 i), .string (s.extract (i + 1) s.size), .bool true]) ∧ ∃ n, w' = w.drewN n := by
  have hI := index1_any s c w
  rw [h] at hI
  replace hI := Lib.hid hI
  replace h := Lib.hid h
  have hsz : (⟨#[c]⟩ : ByteArray).size = 1 := rfl
  have c1 : (0 : Int) ≤ (i : Int) := by omega
  have c2 : (i : Int) ≤ (s.size : Int) := by omega
  have c3 : (0 : Int) ≤ (i : Int) + 1 := by omega
  have c4 : (i : Int) + 1 ≤ (s.size : Int) := by omega
  have hwr : IntKind.i64.wrap ((i : Int) + 1) = (i : Int) + 1 := by rw [IntKind.wrap_i64]; omega
  generalize hq : (⟨#[c]⟩ : ByteArray) = q at *
  replace hq := Lib.hid hq
  go_enter Tryz.func67, Tryz.ntmps67
  go_wp2_with fail
  refine (hI.out).mono ?_; rintro e w' ⟨rfl, rfl⟩
  go_wp2_with fail
  go_region
  go_wp2
  go_ret3
  exact ⟨rfl, 1, rfl⟩
set_option maxHeartbeats 1000000 in
theorem cutMiss (s : ByteArray) (c : UInt8) (w : World) (h : Lib.index s.data.toList [c] = -1) :
    Calls Tryz.prog 38 #[.string s, .string ⟨#[c]⟩] w fun e w' => e = .returned (.tuple #[.string s, .string ⟨#[]⟩, .bool false]) ∧ w = w' := by
  have hI := Lib.hid (cutMiss0 s c w h)
  replace h := Lib.hid h
  go_enter Tryz.func38, Tryz.ntmps38
  go_wp2_with fail
  refine (hI.out).mono ?_; rintro e w' ⟨rfl, rfl⟩
  go_wp2_with fail
  go_ret3
  exact ⟨rfl, rfl⟩
set_option maxHeartbeats 1000000 in
theorem cutHit (s : ByteArray) (c : UInt8) (i : Nat) (w : World) (h : Lib.index s.data.toList [c] = i) (hi : i < s.size) (h63 : s.size ≤ 1000000000) :
    Calls Tryz.prog 38 #[.string s, .string ⟨#[c]⟩] w fun e w' => e = .returned (.tuple #[.string (s.extract 0 i), .string (s.extract (i + 1) s.size), .bool true]) ∧ Below w.heap.size w w' := by
  have hI := Lib.hid (cutHit0 s c i w h hi h63)
  replace h := Lib.hid h
  go_enter Tryz.func38, Tryz.ntmps38
  go_wp2_with fail
  refine (hI.out).mono ?_; rintro e w' ⟨rfl, n, rfl⟩
  go_wp2_with fail
  go_ret3
  exact ⟨rfl, below_drewN (Below.refl _ _) n⟩
end Go.Proofs.YtpkkjoiglemlgaaGreatDoor
