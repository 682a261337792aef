/-
  SeptetBack, walked. No condition.
-/
import Derived.Test.YtgnjjlbdiagklaaDoorSeptetP
import Derived.Deep.RegionWith
import Derived.Deep.RegionHeld3
namespace Go.Proofs.YtgnjjlbdiagklaaDoor
set_option linter.unusedVariables false
open Go.RowKit Go.Extern.Stop Go.Stop Go.Extern Go.ChangeShapes

theorem nx {B : Nat} {a b c : World} (h : Below B a b) (hB : B ≤ a.heap.size) (k : Below b.heap.size b c) : Below B a c := h.trans (k.mono (Nat.le_trans hB h.size))
set_option maxRecDepth 100000 in
set_option maxHeartbeats 1000000 in
theorem walkBack2 (n : Nat) (hn : n < 18446744073709551616) (i : Int) (hi0 : -9223372036854775808 ≤ i) (hi1 : i ≤ 9223372036854775807) (x y : ByteArray) (W : World) (sv : Nat → Addr) (S : Sent W sv) :
    Calls Tryd.prog 4 #[.int .u64 n, .int .i64 i, .agg #[.string x, .string y]] W fun e w' => e = .returned (.bool true) ∧ Below W.heap.size W w' := by
  have S0 := S.below ((Below.refl _ _).alloc (Nat.le_refl _) (.cells #[.string x, .string y] 28))
  clear S
  replace S0 := Lib.hid S0
  by_cases hs : 500 < x.size
  · go_enter Tryd.func4, Tryd.ntmps4
    go_wp2_with fail
    refine (awake02 S0.out).mono ?_; rintro e w1 ⟨rfl, hb⟩
    go_wp2_with fail
    go_ret
    exact ⟨rfl, Below.trans ((Below.refl _ _).alloc (Nat.le_refl _) _) (hb.mono (by simp))⟩
  · by_cases hy : 500 < y.size
    · go_enter Tryd.func4, Tryd.ntmps4
      go_wp2_with fail
      refine (awake02 S0.out).mono ?_; rintro e w1 ⟨rfl, hb⟩
      go_wp2_with fail
      go_ret
      exact ⟨rfl, Below.trans ((Below.refl _ _).alloc (Nat.le_refl _) _) (hb.mono (by simp))⟩
    · have hz := zz_lt hi0 hi1
      have lp := sput_ten hn
      have lq := sput_ten hz
      have a1 := fun W => run_string_add_sum (P := Tryd.prog) W x (bs (sput n)) (by rw [size_bs]; omega)
      have a2 := fun W => run_string_add_sum (P := Tryd.prog) W (x ++ bs (sput n)) y (by simp [size_bs]; omega)
      have a3 := fun W => run_string_add_sum (P := Tryd.prog) W x (bs (sput (zz i))) (by rw [size_bs]; omega)
      have a4 := fun W => run_string_add_sum (P := Tryd.prog) W (x ++ bs (sput (zz i))) y (by simp [size_bs]; omega)
      have P1 := fun w => put_any n hn w
      have P2 := fun w => putInt_any i hi0 hi1 w
      have A1 := fun (w : World) (h : Below (W.heap.size + 1) (W.alloc (.cells #[.string x, .string y] 28)) w) => take_any (S0.out.below (by simpa using h)) (x ++ bs (sput n) ++ y) x.size (by simp [size_bs]; omega)
      have A2 := fun (w : World) (h : Below (W.heap.size + 1) (W.alloc (.cells #[.string x, .string y] 28)) w) => takeInt_any (S0.out.below (by simpa using h)) (x ++ bs (sput (zz i)) ++ y) x.size (by simp [size_bs]; omega)
      rw [tk_back x y n hn] at A1
      have e2 : tki (x ++ bs (sput (zz i)) ++ y) x.size = (i, (x.size : Int) + (sput (zz i)).length, 0) := by
        unfold tki
        rw [tk_back x y (zz i) hz]
        simp [zi_zz]
      rw [e2] at A2
      have l1 : (bs (sput n)).size = (sput n).length := size_bs _
      have l2 : (bs (sput (zz i))).size = (sput (zz i)).length := size_bs _
      clear e2
      replace hn := Lib.hid hn
      replace hz := Lib.hid hz
      replace P1 := Lib.hid P1
      replace P2 := Lib.hid P2
      replace A1 := Lib.hid A1
      replace A2 := Lib.hid A2
      have B0 := Blk.new W 28 #[.string x, .string y]
      replace B0 := Lib.hid B0
      go_enter Tryd.func4, Tryd.ntmps4
      go_wp2_with fail
      refine (P1.out _).mono ?_; rintro e w1 ⟨rfl, hb1⟩
      go_wp2_with fail
      refine (P2.out _).mono ?_; rintro e w2 ⟨rfl, hb2⟩
      have hc2 := Below.next_ hb1 hb2
      simp only [World.size_alloc] at hc2
      have c1 := (B0.out.below hc2 (by omega)).cell 0
      have c2 := (B0.out.below hc2 (by omega)).cell 1
      go_wp2_with fail
      refine (A1.out _ hc2).mono ?_; rintro e w3 ⟨v, rfl, hv, hb3⟩
      obtain rfl : v = .nilIface := by
        rcases hv with ⟨_, h⟩ | ⟨h, _⟩
        · exact h
        · exact absurd rfl h
      clear hv c1 c2
      have hc3 := nx hc2 (by simp) hb3
      have c1 := (B0.out.below hc3 (by omega)).cell 0
      have c2 := (B0.out.below hc3 (by omega)).cell 1
      go_wp2_with fail
      refine (A2.out _ hc3).mono ?_; rintro e w4 ⟨v, rfl, hv, hb4⟩
      obtain rfl : v = .nilIface := by
        rcases hv with ⟨_, h⟩ | ⟨h, _⟩
        · exact h
        · exact absurd rfl h
      clear hv c1 c2
      have hc4 := nx hc3 (by simp) hb4
      have c1 := (B0.out.below hc4 (by omega)).cell 0
      have c2 := (B0.out.below hc4 (by omega)).cell 1
      go_wp2_with fail
      clear c1 c2
      clear a1 a2 a3 a4
      go_loopw [15] (fun j wr => ∃ k : Nat, k ≤ x.size ∧ j = .int .i64 k ∧ Below (W.heap.size + 1) (W.alloc (.cells #[.string x, .string y] 28)) wr) (fun j _ => x.size + 1 - (intOf j).toNat)
      case atStart => exact ⟨0, Nat.zero_le _, rfl, hc4⟩
      case round =>
        obtain ⟨k, hk, rfl, hc5⟩ := hrel
        have c1 := (B0.out.below hc5 (by omega)).cell 0
        have hsz5 := hc5.size
        simp only [World.size_alloc] at hsz5
        by_cases hlt : k < x.size
        · have X1 := take_any (S0.out.below (by simpa using hc5)) x k (by omega)
          by_cases hcode : (tk x k).2.2 = 0
          · obtain ⟨a, b, ha, hb, hab, hbs, hput, hnn⟩ := tk_took hcode
            obtain rfl : k = a := by omega
            rw [hcode, hb] at X1
            have Q := fun w => put_any _ hnn w
            rw [show strL (sput (tk x (k : Int)).1) = .string (bs (sput (tk x (k : Int)).1)) from rfl, hput] at Q
            generalize (tk x (k : Int)).1 = m at *
            clear hcode hb hput ha
            replace X1 := Lib.hid X1
            replace Q := Lib.hid Q
            go_wp2_with fail
            refine (X1.out).mono ?_; rintro e w5 ⟨v, rfl, hv, hb5⟩
            obtain rfl : v = .nilIface := by
              rcases hv with ⟨_, h⟩ | ⟨h, _⟩
              · exact h
              · exact absurd rfl h
            clear hv c1
            have hc6 := nx hc5 (by simp) hb5
            have c1 := (B0.out.below hc6 (by omega)).cell 0
            go_wp2_with fail
            have hc6d := hc6.drew
            have i1 : (0 : Int) ≤ k := by omega
            have i2 : (k : Int) ≤ b := by omega
            have i3 : (b : Int) ≤ x.size := by omega
            have i4 : (0 : Int) ≤ b := by omega
            have d1 : decide (b ≤ k) = false := decide_eq_false (by omega)
            have d2 : decide (x.size < b) = false := decide_eq_false (by omega)
            go_region_held3 (fun w' => Below (W.heap.size + 1) (W.alloc (.cells #[.string x, .string y] 28)) w' ∧ w'.cell? ⟨W.heap.size, 0, none⟩ = some (.string x))
              (first | assumption | go_keep)
              (first | (go_at_call 14; refine (Q.out _).mono ?_; rintro e w6 ⟨rfl, hb6⟩; have hz := nx (B := W.heap.size + 1) (a := W.alloc (.cells #[.string x, .string y] 28)) (by assumption) (by simp) hb6; have c3 := (B0.out.below hz (by omega)).cell 0))
            all_goals
              go_wp2_with fail
              go_roundw
              case rel => exact ⟨k + 1, by omega, by go_num, by assumption⟩
              case measure => simp [intOf]; omega
          · replace hcode := Lib.hid hcode
            have hz0 : ∃ c n0 b0, (tk x (k : Int)) = (n0, b0, c) ∧ c ≠ 0 := ⟨_, _, _, rfl, hcode.out⟩
            obtain ⟨c, n0, b0, hz1, hz2⟩ := hz0
            rw [hz1] at X1
            replace X1 := Lib.hid X1
            clear hz1
            replace hz2 := Lib.hid hz2
            go_wp2_with fail
            refine (X1.out).mono ?_; rintro e w5 ⟨v, rfl, hv, hb5⟩
            have hv2 := hv.resolve_left fun h => hz2.out h.1
            clear hv c1
            obtain ⟨t, u, rfl⟩ := hv2.2.iface
            clear hv2
            have hc6 := nx hc5 (by simp) hb5
            go_wp2_with fail
            go_roundw
            case rel => exact ⟨k + 1, by omega, by go_num, hc6⟩
            case measure => simp [intOf]; omega
        · go_wp2_with fail
          refine (awake02 (S0.out.below (by simpa using hc5))).mono ?_; rintro e w5 ⟨rfl, hb5⟩
          go_wp2_with fail
          go_ret
          exact ⟨rfl, Below.trans ((Below.refl _ _).alloc (Nat.le_refl _) _) ((nx hc5 (by simp) hb5).mono (by simp))⟩
end Go.Proofs.YtgnjjlbdiagklaaDoor
