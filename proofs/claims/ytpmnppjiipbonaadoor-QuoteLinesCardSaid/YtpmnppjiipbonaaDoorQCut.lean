/-
  strings.Cut and strings.Split at a separator of one byte: internal/bytealg.MaxLen is not read. No condition.
-/
import Derived.Test.YtpmnppjiipbonaaDoorQLineP
import Derived.Test.YtpmnppjiipbonaaDoorKits
import Derived.Test.YtpmnppjiipbonaaDoorRws
import Derived.Lib.IndexBytes
namespace Go.Proofs.YtpmnppjiipbonaaDoor
set_option linter.unusedVariables false
open Go.RowKit Go.Extern.Stop Go.Stop Go.Extern Go.ChangeShapes

theorem index1_any (s : ByteArray) (c : UInt8) (w : World) : Calls Tryd.prog 95 #[.string s, .string ⟨#[c]⟩] w fun e w' => e = .returned (.int .i64 (Lib.index s.data.toList [c])) ∧ w = w' := by
  refine (Tryd.stringslite_Index_one s c w).mono ?_
  rintro e w' ⟨rfl, rfl⟩
  rw [Lib.index_one]
  exact ⟨rfl, rfl⟩
set_option maxHeartbeats 1000000 in
set_option maxRecDepth 100000 in
theorem cutMiss0 (s : ByteArray) (c : UInt8) (w : World) (h : Lib.index s.data.toList [c] = -1) :
    Calls Tryd.prog 68 #[.string s, .string ⟨#[c]⟩] w fun e w' => e = .returned (.tuple #[.string s, .string ⟨#[]⟩, .bool false]) ∧ w = w' := by
  have hI := index1_any s c w
  rw [h] at hI
  replace hI := Lib.hid hI
  replace h := Lib.hid h
  go_enter Tryd.func68, Tryd.ntmps68
  go_wp2_with fail
  refine (hI.out).mono ?_; rintro e w' ⟨rfl, rfl⟩
  go_wp2_with fail
  go_ret3
  exact ⟨rfl, rfl⟩
set_option maxHeartbeats 1000000 in
set_option maxRecDepth 100000 in
theorem cutHit0 (s : ByteArray) (c : UInt8) (i : Nat) (w : World) (h : Lib.index s.data.toList [c] = i) (hi : i < s.size) (h63 : s.size ≤ 1000000000) :
    Calls Tryd.prog 68 #[.string s, .string ⟨#[c]⟩] w fun e w' => e = .returned (.tuple #[.string (s.extract 0 i), .string (s.extract (i + 1) s.size), .bool true]) ∧ ∃ n, w' = w.drewN n := by
  have hI := index1_any s c w
  rw [h] at hI
  replace hI := Lib.hid hI
  replace h := Lib.hid h
  have hsz : (⟨#[c]⟩ : ByteArray).size = 1 := rfl
  have c1 : (0 : Int) ≤ (i : Int) := by omega
  have c2 : (i : Int) ≤ (s.size : Int) := by omega
  have c3 : (0 : Int) ≤ (i : Int) + 1 := by omega
  have c4 : (i : Int) + 1 ≤ (s.size : Int) := by omega
  have hwr : IntKind.i64.wrap ((i : Int) + 1) = (i : Int) + 1 := by rw [IntKind.wrap_i64]; omega
  generalize hq : (⟨#[c]⟩ : ByteArray) = q at *
  replace hq := Lib.hid hq
  go_enter Tryd.func68, Tryd.ntmps68
  go_wp2_with fail
  refine (hI.out).mono ?_; rintro e w' ⟨rfl, rfl⟩
  go_wp2_with fail
  go_region
  go_wp2
  go_ret3
  exact ⟨rfl, 1, rfl⟩
set_option maxHeartbeats 1000000 in
theorem cutMiss (s : ByteArray) (c : UInt8) (w : World) (h : Lib.index s.data.toList [c] = -1) :
    Calls Tryd.prog 43 #[.string s, .string ⟨#[c]⟩] w fun e w' => e = .returned (.tuple #[.string s, .string ⟨#[]⟩, .bool false]) ∧ w = w' := by
  have hI := Lib.hid (cutMiss0 s c w h)
  replace h := Lib.hid h
  go_enter Tryd.func43, Tryd.ntmps43
  go_wp2_with fail
  refine (hI.out).mono ?_; rintro e w' ⟨rfl, rfl⟩
  go_wp2_with fail
  go_ret3
  exact ⟨rfl, rfl⟩
set_option maxHeartbeats 1000000 in
theorem cutHit (s : ByteArray) (c : UInt8) (i : Nat) (w : World) (h : Lib.index s.data.toList [c] = i) (hi : i < s.size) (h63 : s.size ≤ 1000000000) :
    Calls Tryd.prog 43 #[.string s, .string ⟨#[c]⟩] w fun e w' => e = .returned (.tuple #[.string (s.extract 0 i), .string (s.extract (i + 1) s.size), .bool true]) ∧ Below w.heap.size w w' := by
  have hI := Lib.hid (cutHit0 s c i w h hi h63)
  replace h := Lib.hid h
  go_enter Tryd.func43, Tryd.ntmps43
  go_wp2_with fail
  refine (hI.out).mono ?_; rintro e w' ⟨rfl, n, rfl⟩
  go_wp2_with fail
  go_ret3
  exact ⟨rfl, below_drewN (Below.refl _ _) n⟩
theorem split_gen (s : ByteArray) (c : UInt8) (w : World) (hs : s.size ≤ 1000000000) :
    Calls Tryd.prog 96 #[.string s, .string ⟨#[c]⟩, .int .i64 0, .int .i64 (-1)] w fun e w' => e = .returned (.slice (some ⟨w.heap.size, 0, none⟩) (spl c s.data.toList).length (spl c s.data.toList).length) ∧ w' = w.alloc (.cells ((spl c s.data.toList).map strL).toArray 9) := by
  have h1 : 1 ≤ (⟨#[c]⟩ : ByteArray).size := Nat.le_refl _
  have hle := Lib.countB_le ⟨#[c]⟩ h1 s.size s (Nat.le_refl _)
  have hlen := Lib.splitB_all ⟨#[c]⟩ h1 0 _ s rfl
  have hsp : Lib.splitB ⟨#[c]⟩ 0 (Lib.countB s ⟨#[c]⟩) s = (spl c s.data.toList).map bs := splitB_spl c s
  have hct : Lib.countB s ⟨#[c]⟩ + 1 = (spl c s.data.toList).length := countB_spl c s
  have k := Any.strings_genSplit_core Tryd.lays221 (by kernel_rfl) s ⟨#[c]⟩ 0 (-1) (Lib.countB s ⟨#[c]⟩ + 1) w (by omega) h1 (Nat.zero_le _)
    (fun x cc _ => (Tryd.strings_Index_one x c (w.alloc (.cells cc 9))).mono (by
      rintro e w' ⟨rfl, rfl⟩
      exact ⟨by rw [← Lib.index_one], rfl⟩))
    ((Tryd.strings_Count_one s c w).mono (by
      rintro e w' ⟨rfl, rfl⟩
      exact ⟨by rw [show Lib.countB s ⟨#[c]⟩ = Lib.countByte s.data.toList c from Lib.count_one c s.data.toList], rfl⟩)) (by decide) (by decide) (by rw [if_pos (by decide)]; omega)
  rw [Nat.add_sub_cancel, hlen] at k
  have e2 : Lib.cellsOf (Lib.splitB ⟨#[c]⟩ 0 (Lib.countB s ⟨#[c]⟩) s) (Lib.countB s ⟨#[c]⟩ + 1) = ((Lib.splitB ⟨#[c]⟩ 0 (Lib.countB s ⟨#[c]⟩) s).map Value.string).toArray := by rw [← hlen]; exact Lib.cellsOf_full _
  rw [e2, hsp, hct, List.map_map] at k
  exact k
set_option maxHeartbeats 1000000 in
theorem split1_any (s : ByteArray) (c : UInt8) (w : World) (hs : s.size ≤ 1000000000) :
    Calls Tryd.prog 69 #[.string s, .string ⟨#[c]⟩] w fun e w' => ∃ A k, e = .returned (.slice A (spl c s.data.toList).length k) ∧ OwnRow w' w.heap.size (.slice A (spl c s.data.toList).length k) (spl c s.data.toList) ∧ Below w.heap.size w w' := by
  have hG := Lib.hid (split_gen s c w hs)
  have hl : 0 < (spl c s.data.toList).length := List.length_pos_iff.2 (spl_ne c _)
  have hm : (spl c s.data.toList).length ≤ maxLen := by
    have := spl_len c s.data.toList
    rw [size_list] at this
    unfold maxLen; omega
  have hO : OwnRow (w.alloc (.cells ((spl c s.data.toList).map strL).toArray 9)) w.heap.size (.slice (some ⟨w.heap.size, 0, none⟩) (spl c s.data.toList).length (spl c s.data.toList).length) (spl c s.data.toList) :=
    ⟨_, _, rfl, by simp, .inr ⟨w.heap.size, (spl c s.data.toList).length, _, rfl, Nat.le_refl _, Blk.new w _ _, Nat.le_refl _, hm, by simp, by simp; exact List.take_of_length_le (by simp)⟩⟩
  have hB : Below w.heap.size w (w.alloc (.cells ((spl c s.data.toList).map strL).toArray 9)) := (Below.refl _ _).alloc (Nat.le_refl _) _
  replace hO := Lib.hid hO
  replace hB := Lib.hid hB
  generalize (spl c s.data.toList).length = N at *
  generalize ((spl c s.data.toList).map strL).toArray = Z at *
  go_enter Tryd.func69, Tryd.ntmps69
  go_wp2_with fail
  refine (hG.out).mono ?_; rintro e w' ⟨rfl, rfl⟩
  go_wp2_with fail
  go_ret
  exact ⟨_, _, rfl, hO.out, hB.out⟩
end Go.Proofs.YtpmnppjiipbonaaDoor
