/-
  The text of any act, by the program and by the document (layer 18), where the table of powers lies. No condition. (Printed by tools/actu.py.)
-/
import Derived.Test.YtmifgjkikbgmiaaDoorActZ
namespace Go.Proofs.YtmifgjkikbgmiaaDoor
set_option linter.unusedVariables false
open Go.RowKit Go.Extern.Stop Go.Stop Go.Extern Go.ChangeShapes

theorem text_of_right {x : PAct} (hr : x.right = true) (hk : x.kind ≠ 5) : x.text = ⟨#[]⟩ := by
  simp only [PAct.right, Bool.and_eq_true] at hr
  have h := hr.2
  unfold PAct.fit at h
  repeat' split at h
  all_goals first
    | exact text_none h
    | (simp only [Bool.and_eq_true] at h; exact text_none h.2)
    | (exfalso; omega)
    | (exact absurd h (by decide))
theorem actText_if {x : PAct} (hr : x.right = true) : actText x = actName x.kind.toNat ++ (actRest x).flatMap fun y => 32 :: y := by unfold actText; rw [if_pos hr]
theorem cell_of_right {x : PAct} (hr : x.right = true) : 0 ≤ x.cell := by
  simp only [PAct.right, Bool.and_eq_true, decide_eq_true_eq] at hr
  exact hr.1.1
set_option maxRecDepth 100000 in
set_option maxHeartbeats 2000000 in
theorem actText_any (x : PAct) (hx : x.Ok) (ht : x.text.size ≤ 5000) (w : World) (htab : PTb w) : Calls Tryd.prog 5 #[x.val] w fun e w' => e = .returned (.string (bs (actText x))) ∧ Below w.heap.size w w' := by
  by_cases hr : x.right = true
  · have hk := right_kind hr
    have hc := cell_of_right hr
    have htx := text_of_right hr
    obtain ⟨k, b, c, o, n, t⟩ := x
    have hb0 : 0 ≤ b := hx.block.1
    have hb1 : b ≤ 18446744073709551615 := hx.block.2
    have hc1 : c ≤ 9223372036854775807 := hx.cell.2
    have ho0 : 0 ≤ o := hx.old.1
    have ho1 : o ≤ 18446744073709551615 := hx.old.2
    have hn0 : 0 ≤ n := hx.new.1
    have hn1 : n ≤ 18446744073709551615 := hx.new.2
    simp only at hk hc htx ht
    obtain ⟨B, rfl⟩ := Int.eq_ofNat_of_zero_le hb0
    obtain ⟨C, rfl⟩ := Int.eq_ofNat_of_zero_le hc
    obtain ⟨O, rfl⟩ := Int.eq_ofNat_of_zero_le ho0
    obtain ⟨N, rfl⟩ := Int.eq_ofNat_of_zero_le hn0
    have hkk : k = 0 ∨ k = 1 ∨ k = 2 ∨ k = 3 ∨ k = 4 ∨ k = 5 ∨ k = 6 ∨ k = 7 ∨ k = 8 ∨ k = 9 ∨ k = 10 := by omega
    rcases hkk with rfl | rfl | rfl | rfl | rfl | rfl | rfl | rfl | rfl | rfl | rfl
    · obtain rfl := htx (by decide)
      have h := text_0 B C O N ⟨#[]⟩ (by omega) (by omega) (by omega) (by omega) ht w htab hr
      refine Calls.mono h ?_; rintro e w' ⟨rfl, hb⟩
      refine ⟨?_, hb⟩
      rw [actText_if hr]
      simp [actRest]
    · obtain rfl := htx (by decide)
      have h := text_1 B C O N ⟨#[]⟩ (by omega) (by omega) (by omega) (by omega) ht w htab hr
      refine Calls.mono h ?_; rintro e w' ⟨rfl, hb⟩
      refine ⟨?_, hb⟩
      rw [actText_if hr]
      simp [actRest]
    · obtain rfl := htx (by decide)
      have h := text_2 B C O N ⟨#[]⟩ (by omega) (by omega) (by omega) (by omega) ht w htab hr
      refine Calls.mono h ?_; rintro e w' ⟨rfl, hb⟩
      refine ⟨?_, hb⟩
      rw [actText_if hr]
      simp [actRest]
    · obtain rfl := htx (by decide)
      have h := text_3 B C O N ⟨#[]⟩ (by omega) (by omega) (by omega) (by omega) ht w htab hr
      refine Calls.mono h ?_; rintro e w' ⟨rfl, hb⟩
      refine ⟨?_, hb⟩
      rw [actText_if hr]
      simp [actRest]
    · obtain rfl := htx (by decide)
      have h := text_4 B C O N ⟨#[]⟩ (by omega) (by omega) (by omega) (by omega) ht w htab hr
      refine Calls.mono h ?_; rintro e w' ⟨rfl, hb⟩
      refine ⟨?_, hb⟩
      rw [actText_if hr]
      simp [actRest]
    · have h := text_5 B C O N t (by omega) (by omega) (by omega) (by omega) ht w htab hr
      refine Calls.mono h ?_; rintro e w' ⟨rfl, hb⟩
      refine ⟨?_, hb⟩
      rw [actText_if hr]
      simp [actRest, makeText]
    · obtain rfl := htx (by decide)
      have h := text_6 B C O N ⟨#[]⟩ (by omega) (by omega) (by omega) (by omega) ht w htab hr
      refine Calls.mono h ?_; rintro e w' ⟨rfl, hb⟩
      refine ⟨?_, hb⟩
      rw [actText_if hr]
      simp [actRest]
    · obtain rfl := htx (by decide)
      have h := text_7 B C O N ⟨#[]⟩ (by omega) (by omega) (by omega) (by omega) ht w htab hr
      refine Calls.mono h ?_; rintro e w' ⟨rfl, hb⟩
      refine ⟨?_, hb⟩
      rw [actText_if hr]
      simp [actRest]
    · obtain rfl := htx (by decide)
      have h := text_8 B C O N ⟨#[]⟩ (by omega) (by omega) (by omega) (by omega) ht w htab hr
      refine Calls.mono h ?_; rintro e w' ⟨rfl, hb⟩
      refine ⟨?_, hb⟩
      rw [actText_if hr]
      simp [actRest]
    · obtain rfl := htx (by decide)
      have h := text_9 B C O N ⟨#[]⟩ (by omega) (by omega) (by omega) (by omega) ht w htab hr
      refine Calls.mono h ?_; rintro e w' ⟨rfl, hb⟩
      refine ⟨?_, hb⟩
      rw [actText_if hr]
      simp [actRest]
    · obtain rfl := htx (by decide)
      have h := text_10 B C O N ⟨#[]⟩ (by omega) (by omega) (by omega) (by omega) ht w htab hr
      refine Calls.mono h ?_; rintro e w' ⟨rfl, hb⟩
      refine ⟨?_, hb⟩
      rw [actText_if hr]
      simp [actRest]
  · have hf : x.right = false := by simpa using hr
    have hR := fun W => right_any x W hx.text
    have e : bs (actText x) = ⟨#[]⟩ := by unfold actText; rw [if_neg hr]; rfl
    rw [hf] at hR
    rw [e]
    obtain ⟨k, b, c, o, n, t⟩ := x
    have hv : PAct.val ⟨k, b, c, o, n, t⟩ = .agg #[.int .i64 k, .int .u64 b, .int .i64 c, .int .u64 o, .int .u64 n, .string t] := rfl
    rw [hv] at hR ⊢
    have hW0 : Below w.heap.size w (w.alloc (.cells #[.int .i64 k, .int .u64 b, .int .i64 c, .int .u64 o, .int .u64 n, .string t] 24)) := (Below.refl _ _).alloc (Nat.le_refl _) _
    replace hR := Lib.hid hR
    replace hW0 := Lib.hid hW0
    clear hr hf e hv hx htab
    go_enter Tryd.func5, Tryd.ntmps5
    go_wp2_with fail
    refine (hR.out _).mono ?_; rintro e w1 ⟨rfl, hb1⟩
    have hz1 := nx hW0.out (Nat.le_refl _) hb1
    go_wp2_with fail
    go_ret
    exact ⟨rfl, hz1⟩
set_option maxRecDepth 100000 in
set_option maxHeartbeats 2000000 in
theorem refActText_any (x : PAct) (hx : x.Ok) (ht : x.text.size ≤ 5000) (w : World) : Calls Tryd.prog 6 #[x.val] w fun e w' => e = .returned (.string (bs (actText x))) ∧ Below w.heap.size w w' := by
  by_cases hr : x.right = true
  · have hk := right_kind hr
    have hc := cell_of_right hr
    have htx := text_of_right hr
    obtain ⟨k, b, c, o, n, t⟩ := x
    have hb0 : 0 ≤ b := hx.block.1
    have hb1 : b ≤ 18446744073709551615 := hx.block.2
    have hc1 : c ≤ 9223372036854775807 := hx.cell.2
    have ho0 : 0 ≤ o := hx.old.1
    have ho1 : o ≤ 18446744073709551615 := hx.old.2
    have hn0 : 0 ≤ n := hx.new.1
    have hn1 : n ≤ 18446744073709551615 := hx.new.2
    simp only at hk hc htx ht
    obtain ⟨B, rfl⟩ := Int.eq_ofNat_of_zero_le hb0
    obtain ⟨C, rfl⟩ := Int.eq_ofNat_of_zero_le hc
    obtain ⟨O, rfl⟩ := Int.eq_ofNat_of_zero_le ho0
    obtain ⟨N, rfl⟩ := Int.eq_ofNat_of_zero_le hn0
    have hkk : k = 0 ∨ k = 1 ∨ k = 2 ∨ k = 3 ∨ k = 4 ∨ k = 5 ∨ k = 6 ∨ k = 7 ∨ k = 8 ∨ k = 9 ∨ k = 10 := by omega
    rcases hkk with rfl | rfl | rfl | rfl | rfl | rfl | rfl | rfl | rfl | rfl | rfl
    · obtain rfl := htx (by decide)
      have h := rtext_0 B C O N ⟨#[]⟩ (by omega) (by omega) (by omega) (by omega) ht w  hr
      refine Calls.mono h ?_; rintro e w' ⟨rfl, hb⟩
      refine ⟨?_, hb⟩
      rw [actText_if hr]
      simp [actRest]
    · obtain rfl := htx (by decide)
      have h := rtext_1 B C O N ⟨#[]⟩ (by omega) (by omega) (by omega) (by omega) ht w  hr
      refine Calls.mono h ?_; rintro e w' ⟨rfl, hb⟩
      refine ⟨?_, hb⟩
      rw [actText_if hr]
      simp [actRest]
    · obtain rfl := htx (by decide)
      have h := rtext_2 B C O N ⟨#[]⟩ (by omega) (by omega) (by omega) (by omega) ht w  hr
      refine Calls.mono h ?_; rintro e w' ⟨rfl, hb⟩
      refine ⟨?_, hb⟩
      rw [actText_if hr]
      simp [actRest]
    · obtain rfl := htx (by decide)
      have h := rtext_3 B C O N ⟨#[]⟩ (by omega) (by omega) (by omega) (by omega) ht w  hr
      refine Calls.mono h ?_; rintro e w' ⟨rfl, hb⟩
      refine ⟨?_, hb⟩
      rw [actText_if hr]
      simp [actRest]
    · obtain rfl := htx (by decide)
      have h := rtext_4 B C O N ⟨#[]⟩ (by omega) (by omega) (by omega) (by omega) ht w  hr
      refine Calls.mono h ?_; rintro e w' ⟨rfl, hb⟩
      refine ⟨?_, hb⟩
      rw [actText_if hr]
      simp [actRest]
    · have h := rtext_5 B C O N t (by omega) (by omega) (by omega) (by omega) ht w  hr
      refine Calls.mono h ?_; rintro e w' ⟨rfl, hb⟩
      refine ⟨?_, hb⟩
      rw [actText_if hr]
      simp [actRest]
    · obtain rfl := htx (by decide)
      have h := rtext_6 B C O N ⟨#[]⟩ (by omega) (by omega) (by omega) (by omega) ht w  hr
      refine Calls.mono h ?_; rintro e w' ⟨rfl, hb⟩
      refine ⟨?_, hb⟩
      rw [actText_if hr]
      simp [actRest]
    · obtain rfl := htx (by decide)
      have h := rtext_7 B C O N ⟨#[]⟩ (by omega) (by omega) (by omega) (by omega) ht w  hr
      refine Calls.mono h ?_; rintro e w' ⟨rfl, hb⟩
      refine ⟨?_, hb⟩
      rw [actText_if hr]
      simp [actRest]
    · obtain rfl := htx (by decide)
      have h := rtext_8 B C O N ⟨#[]⟩ (by omega) (by omega) (by omega) (by omega) ht w  hr
      refine Calls.mono h ?_; rintro e w' ⟨rfl, hb⟩
      refine ⟨?_, hb⟩
      rw [actText_if hr]
      simp [actRest]
    · obtain rfl := htx (by decide)
      have h := rtext_9 B C O N ⟨#[]⟩ (by omega) (by omega) (by omega) (by omega) ht w  hr
      refine Calls.mono h ?_; rintro e w' ⟨rfl, hb⟩
      refine ⟨?_, hb⟩
      rw [actText_if hr]
      simp [actRest]
    · obtain rfl := htx (by decide)
      have h := rtext_10 B C O N ⟨#[]⟩ (by omega) (by omega) (by omega) (by omega) ht w  hr
      refine Calls.mono h ?_; rintro e w' ⟨rfl, hb⟩
      refine ⟨?_, hb⟩
      rw [actText_if hr]
      simp [actRest]
  · have hf : x.right = false := by simpa using hr
    have hR := fun W => rright_any x W hx.text
    have e : bs (actText x) = ⟨#[]⟩ := by unfold actText; rw [if_neg hr]; rfl
    rw [hf] at hR
    rw [e]
    obtain ⟨k, b, c, o, n, t⟩ := x
    have hv : PAct.val ⟨k, b, c, o, n, t⟩ = .agg #[.int .i64 k, .int .u64 b, .int .i64 c, .int .u64 o, .int .u64 n, .string t] := rfl
    rw [hv] at hR ⊢
    have hW0 : Below w.heap.size w (w.alloc (.cells #[.int .i64 k, .int .u64 b, .int .i64 c, .int .u64 o, .int .u64 n, .string t] 24)) := (Below.refl _ _).alloc (Nat.le_refl _) _
    replace hR := Lib.hid hR
    replace hW0 := Lib.hid hW0
    clear hr hf e hv hx
    go_enter Tryd.func6, Tryd.ntmps6
    go_wp2_with fail
    refine (hR.out _).mono ?_; rintro e w1 ⟨rfl, hb1⟩
    have hz1 := nx hW0.out (Nat.le_refl _) hb1
    go_wp2_with fail
    go_ret
    exact ⟨rfl, hz1⟩
theorem text_ex {w : World} (htab : PTb w) : Calls Tryd.prog 5 #[.agg #[.int .i64 2, .int .u64 2, .int .i64 0, .int .u64 0, .int .u64 5, .string ⟨#[]⟩]] w fun e w' => e = .returned (.string ⟨#[115, 116, 111, 114, 101, 32, 50, 32, 48, 32, 53]⟩) ∧ Below w.heap.size w w' := by
  have h := text_2 2 0 0 5 ⟨#[]⟩ (by omega) (by omega) (by omega) (by omega) (Nat.zero_le _) w htab (by kernel_rfl)
  rw [Lib.decDigits_one (by omega), Lib.decDigits_one (by omega), Lib.decDigits_one (by omega)] at h
  exact h
end Go.Proofs.YtmifgjkikbgmiaaDoor
