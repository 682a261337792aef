/-
  strconv.FormatUint and digits.Print at base 10, where the table of powers lies. No condition.
-/
import Derived.Test.YtmifgjkikbgmiaaDoorBase
import Derived.Test.YtmifgjkikbgmiaaDoorKits
import Derived.Test.YtmifgjkikbgmiaaDoorSeptet2
import Derived.Lib.AppendIntMem
import Derived.Lib.ItoaLen
import Derived.Lib.SmallJoins
namespace Go.Proofs.YtmifgjkikbgmiaaDoor
set_option linter.unusedVariables false
open Go.RowKit Go.Extern.Stop Go.Stop Go.Extern Go.ChangeShapes Go.Sort

/-- The table of powers that the library's numerals read. -/
def PTb (w : World) : Prop := Lib.TabIs Tryd.prog w "internal/strconv.uint64pow10" .u64 Lib.pow10Tab
theorem ptbGlobal : Tryd.prog.globalNamed "internal/strconv.uint64pow10" = some 0 := by kernel_rfl
theorem PTb.below {w w' : World} (h : PTb w) (hb : Below w.heap.size w w') : PTb w' := Joins.tab_stays ptbGlobal h hb (Nat.le_refl _)
set_option maxHeartbeats 6400000 in
set_option maxRecDepth 100000 in
theorem fmtU_any {w : World} (htab : PTb w) (u : Nat) (hu : u < 18446744073709551616) :
    Calls Tryd.prog 31 #[.int .u64 u, .int .i64 10] w fun e w' => e = .returned (strL (Lib.decDigits u)) ∧ Below w.heap.size w w' := by
  by_cases hs : u < 100
  · have hS := fun W => Tryd.internal_strconv_small u hs W
    replace hS := Lib.hid hS
    go_enter Tryd.func31, Tryd.ntmps31
    go_wp2_with fail
    refine (hS.out _).mono ?_; rintro e w' ⟨rfl, rfl⟩
    go_wp2_with fail
    go_ret
    exact ⟨rfl, Below.refl _ _⟩
  · have hu1 : 1 ≤ u := by omega
    have hnd20 : Lib.nDigits u ≤ 20 := by have := Lib.numDigits_eq u hu1 hu; split at this <;> omega
    have hal : Tryd.prog.arrayLen 77 = 24 := by simp [Program.arrayLen, Tryd.underlying77]
    have hsl1 : ∀ W, (Instr.sliceAt 77 (.pointer (some ⟨w.heap.size, 0, none⟩)) none (some (.int .i64 (Lib.nDigits u : Int))) none).run Tryd.prog W = .ok (.slice (some ⟨w.heap.size, 0, none⟩) (Lib.nDigits u) 24) W := fun W => by
      rw [run_sliceAt_array_h W 77 ⟨w.heap.size, 0, none⟩ (by simp [Program.arrayLen, Program.elem, Tryd.underlying77]) .i64 (Lib.nDigits u : Int) (by omega) (by rw [hal]; omega)]
      go_simp
    have hH0 := Lib.holds_zero0 w 77 (Lib.nDigits u) (by omega)
    have hfmt := Tryd.internal_strconv_formatBase10 w.heap.size 0 24 u (Array.replicate (Lib.nDigits u) 0) (w.alloc (.cells Lib.zeros24 77)) hH0 (by rw [Array.size_replicate]; exact Lib.lt_pow_nDigits u) hu (by rw [Array.size_replicate]; omega)
    rw [Array.size_replicate] at hfmt
    have HH0 := Lib.hid hH0
    have hnd := fun W (h : PTb W) => Tryd.internal_strconv_numDigits u hu1 hu W h
    replace hnd := Lib.hid hnd
    replace hfmt := Lib.hid hfmt
    have htab2 := Lib.hid (Lib.tabIs_alloc htab (.cells Lib.zeros24 77))
    clear hH0 hal htab
    go_enter Tryd.func31, Tryd.ntmps31
    go_wp2_with fail
    refine (hnd.out _ htab2.out).mono ?_; rintro e w' ⟨rfl, rfl⟩
    go_wp2_with fail
    refine (hfmt.out).mono ?_
    rintro e w' ⟨rfl, k, v', dk, rfl, hF⟩
    have hcv : (convert 62 9 (.slice (some ⟨w.heap.size, 0, none⟩) (Lib.nDigits u) 24)).run Tryd.prog ((putRow (fun (b : UInt8) => Value.int .u8 (b.toNat : Int)) (w.alloc (.cells Lib.zeros24 77)) w.heap.size 0 dk).drewN k) = .ok (.string ⟨(Lib.decDigits u).toArray⟩) ((putRow (fun (b : UInt8) => Value.int .u8 (b.toNat : Int)) (w.alloc (.cells Lib.zeros24 77)) w.heap.size 0 dk).drewN k) := by
      have h := run_convert_bytes_back (P := Tryd.prog) ((putRow (fun (b : UInt8) => Value.int .u8 (b.toNat : Int)) (w.alloc (.cells Lib.zeros24 77)) w.heap.size 0 dk).drewN k) 62 9 5 ⟨w.heap.size, 0, none⟩ 24 (Lib.decDigits u) Tryd.underlying62 Tryd.underlying5 Tryd.underlying9 (fun j hj => by
        rw [Lib.row_is_numeral hF j hj, Lib.add_plain, World.cell?_drewN]
        exact cell?_putRow (fun (b : UInt8) => Value.int .u8 (b.toNat : Int)) _ w.heap.size 0 _ dk HH0.out (by rw [hF.size, Array.size_replicate]) j (by rw [hF.size]; rw [Lib.decDigits_length] at hj; exact hj))
      rw [Lib.decDigits_length] at h
      exact h
    obtain ⟨os, eo⟩ := Lib.fin_at w (.cells Lib.zeros24 77) dk k 0
    have hbel : Below w.heap.size w ((putRow (fun (b : UInt8) => Value.int .u8 (b.toNat : Int)) (w.alloc (.cells Lib.zeros24 77)) w.heap.size 0 dk).drewN k) := by
      rw [eo]; exact Lib.below_grow _ _ (Nat.le_refl _) _ _
    clear hF eo
    generalize ((putRow (fun (b : UInt8) => Value.int .u8 (b.toNat : Int)) (w.alloc (.cells Lib.zeros24 77)) w.heap.size 0 dk).drewN k) = W at *
    go_wp2_with fail
    go_ret
    exact ⟨rfl, hbel⟩
theorem fmtUint_any {w : World} (htab : PTb w) (u : Nat) (hu : u < 18446744073709551616) :
    Calls Tryd.prog 15 #[.int .u64 u, .int .i64 10] w fun e w' => e = .returned (strL (Lib.decDigits u)) ∧ Below w.heap.size w w' := by
  have hF := Lib.hid (fmtU_any htab u hu)
  clear htab
  go_enter Tryd.func15, Tryd.ntmps15
  go_wp2_with fail
  refine (hF.out).mono ?_; rintro e w' ⟨rfl, hb⟩
  go_wp2_with fail
  go_ret
  exact ⟨rfl, hb⟩
theorem fmtInt_any {w : World} (htab : PTb w) (n : Int) (h0 : -9223372036854775808 ≤ n) (h1 : n ≤ 9223372036854775807) :
    Calls Tryd.prog 32 #[.int .i64 n, .int .i64 10] w fun e w' => e = .returned (strL (Lib.itoa n)) ∧ Below w.heap.size w w' := by
  have hF := Lib.hid (Tryd.internal_strconv_FormatInt_10 n h0 h1 w htab)
  clear htab
  go_enter Tryd.func32, Tryd.ntmps32
  go_wp2_with fail
  refine (hF.out).mono ?_
  rintro e w' ⟨rfl, k, os, rfl⟩
  go_wp2_with fail
  go_ret
  exact ⟨rfl, Lib.below_grow _ _ (Nat.le_refl _) _ _⟩
theorem digitsPrint_any {w : World} (htab : PTb w) (n : Nat) (h1 : n ≤ 9223372036854775807) :
    Calls Tryd.prog 16 #[.int .i64 n] w fun e w' => e = .returned (strL (Lib.decDigits n)) ∧ Below w.heap.size w w' := by
  have hF := fmtInt_any htab (n : Int) (by omega) (by omega)
  rw [Lib.itoa_nonneg] at hF
  replace hF := Lib.hid hF
  clear htab
  go_enter Tryd.func16, Tryd.ntmps16
  go_wp2_with fail
  refine (hF.out).mono ?_; rintro e w' ⟨rfl, hb⟩
  go_wp2_with fail
  go_ret
  exact ⟨rfl, hb⟩
end Go.Proofs.YtmifgjkikbgmiaaDoor
