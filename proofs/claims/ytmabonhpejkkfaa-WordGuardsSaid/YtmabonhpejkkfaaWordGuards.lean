/-
  The walk over the law of words that guards. No condition.
-/
import Derived.Test.YtmabonhpejkkfaaWord
namespace Go.Proofs.Ytmabonhpejkkfaa
open Go.ChangeShapes Go.WideShapes Go.ChangeAt Go.RowKit

theorem ent_nat {a m : Int} (h : inOf a < m) (hm : m ≤ 255) (hc : cameOf a ≤ 1000) : ∃ v, entV a m = v ∧ entOk a m = true ∧ 0 ≤ v ∧ v ≤ 18446744073709551615 ∧ cameOf v = cameOf a + 1 ∧ inOf v = inOf a + 1 := by
  have c1 := cameOf_le a
  have c2 := inOf_le a
  obtain ⟨e1, e2⟩ := ent_hi h
  refine ⟨_, rfl, ?_, ?_, ?_, ?_, ?_⟩
  · rw [e1, packOk_t (by omega)]
  all_goals (rw [e2, packV_t (by omega)]; try unfold cameOf inOf at *)
  all_goals omega
theorem lv_nat {a z : Int} (h0 : 0 ≤ z) (h : z ≤ inOf a) : ∃ v, lvV a z = v ∧ lvOk a z = true ∧ 0 ≤ v ∧ v ≤ 18446744073709551615 ∧ cameOf v = cameOf a ∧ inOf v = inOf a - z := by
  have c1 := cameOf_le a
  have c2 := inOf_le a
  obtain ⟨e1, e2⟩ := lv_t (a := a) (n := z) ⟨h0, h⟩
  refine ⟨_, rfl, e1, ?_, ?_, ?_, ?_⟩
  all_goals (rw [e2]; try unfold cameOf inOf at *)
  all_goals omega
structure Small (len : Nat) (zs : List Int) : Prop where
  len : zs.length = len
  lo : ∀ (k : Nat) (z : Int), zs[k]? = some z → 0 ≤ z ∧ z ≤ 255

set_option maxRecDepth 100000 in
theorem walkGuards (m : Int) (A : Option Addr) (len cap : Nat) (zs : List Int) (hm : 0 ≤ m ∧ m ≤ 255) (hlen : len ≤ maxLen) (hz : Small len zs) (w : World) (hr : Reads w w.heap.size 1 A len (zs.map (Value.int .u8))) :
    Calls Try.prog 5 #[.int .u8 m, .slice A len cap] w fun e w' => e = .returned (.bool true) ∧ Below w.heap.size w w' := by
  unfold maxLen at hlen
  by_cases hbig : 200 < len
  · go_enter Try.func5, Try.ntmps5
    go_wp2_with fail
    refine (awake _).mono ?_; rintro e w7 ⟨rfl, hb7⟩
    go_wp2_with fail
    go_ret
    exact ⟨rfl, hb7⟩
  · go_enter Try.func5, Try.ntmps5
    go_wp2_with fail
    go_loopw [5, 6, 7] (fun s n i wr => ∃ (k : Nat) (W : Int), k ≤ len ∧ 0 ≤ W ∧ W ≤ 18446744073709551615 ∧ cameOf W ≤ k ∧ inOf W ≤ m ∧ i = .int .i64 k ∧ s = .int .u64 W ∧ n = .int .i64 (inOf W) ∧ Below w.heap.size w wr) (fun _ _ i _ => len - (intOf i).toNat)
    case atStart => exact ⟨0, 0, Nat.zero_le _, by omega, by omega, by decide, by unfold inOf; omega, rfl, rfl, rfl, Below.refl _ _⟩
    case round =>
      obtain ⟨k, W, hk, hW0, hW1, hcm, him, rfl, rfl, rfl, hb⟩ := hrel
      by_cases hlt : k < len
      · obtain ⟨ad, u, rfl, hadb, hu, hcell⟩ := hr.at_ hlt
        have hcell' := keepc hb hadb hcell
        have hcw := cameOf_le W
        have hiw := inOf_le W
        obtain ⟨z, hz1, rfl⟩ : ∃ z, zs[k]? = some z ∧ Value.int .u8 z = u := by simpa using hu
        obtain ⟨hz2, hz3⟩ := hz.lo k z hz1
        clear hz1 hu
        go_wp2_with fail
        refine (came _ (by omega) (by omega) _).mono ?_; rintro e w1 ⟨rfl, hb1⟩
        go_wp2_with fail
        refine (enter _ _ (by omega) (by omega) _).mono ?_; rintro e w2 ⟨rfl, hb2⟩
        by_cases hin : inOf W < m
        · obtain ⟨v, hv1, hv2, hv3, hv4, hv5, hv6⟩ := ent_nat hin hm.2 (by omega)
          have hd : decide (inOf W < m) = true := decide_eq_true hin
          rw [hv1, hv2]
          clear hv1 hv2
          have H5 := Lib.hid hv5
          have H6 := Lib.hid hv6
          clear hv5 hv6 hcell'
          go_wp2_with fail
          refine (came _ (by omega) (by omega) _).mono ?_; rintro e w3 ⟨rfl, hb3⟩
          have hbz := Below.next_ hb (Below.next_ hb1 (Below.next_ hb2 hb3))
          have hcz := keepc hbz hadb hcell
          rw [H5.out]
          go_wp2_with fail
          refine (leave _ _ (by omega) (by omega) (by omega) _).mono ?_; rintro e w4 ⟨rfl, hb4⟩
          have hby := Below.next_ hbz hb4
          have hcy := keepc hby hadb hcell
          clear hcz
          by_cases hle : z ≤ inOf W + 1
          · obtain ⟨u, hu1, hu2, hu3, hu4, hu5, hu6⟩ := lv_nat (a := v) hz2 (by rw [H6.out]; omega)
            rw [hu1, hu2]
            clear hu1 hu2
            have H7 := Lib.hid (hu5.trans H5.out)
            have H8 := Lib.hid (hu6.trans (by rw [H6.out]))
            clear hu5 hu6
            go_wp2_with fail
            refine (inn _ (by omega) (by omega) _).mono ?_; rintro e w5 ⟨rfl, hb5⟩
            rw [H8.out]
            go_wp2_with fail
            refine (came _ (by omega) (by omega) _).mono ?_; rintro e w6 ⟨rfl, hb6⟩
            rw [H7.out]
            go_wp2_with fail
            go_roundw
            case rel => exact ⟨k + 1, u, by omega, hu3, hu4, by rw [H7.out]; omega, by rw [H8.out]; omega, by go_num, rfl, by rw [H8.out], Below.next_ hby (Below.next_ hb5 hb6)⟩
            case measure => simp [intOf]; omega
          · have hu := lv_f (a := v) (n := z) (by rw [H6.out]; omega)
            rw [hu.1, hu.2]
            clear hu
            go_wp2_with fail
            refine (inn _ (by omega) (by omega) _).mono ?_; rintro e w5 ⟨rfl, hb5⟩
            rw [H6.out]
            go_wp2_with fail
            refine (came _ (by omega) (by omega) _).mono ?_; rintro e w6 ⟨rfl, hb6⟩
            rw [H5.out]
            go_wp2_with fail
            go_roundw
            case rel => exact ⟨k + 1, v, by omega, hv3, hv4, by rw [H5.out]; omega, by rw [H6.out]; omega, by go_num, rfl, by rw [H6.out], Below.next_ hby (Below.next_ hb5 hb6)⟩
            case measure => simp [intOf]; omega
        · have hd : decide (inOf W < m) = false := decide_eq_false hin
          have he := ent_lo (a := W) (m := m) (by omega)
          rw [he.1, he.2]
          clear he
          have hbz := Below.next_ hb (Below.next_ hb1 hb2)
          have hcz := keepc hbz hadb hcell
          clear hcell'
          go_wp2_with fail
          refine (leave _ _ (by omega) (by omega) (by omega) _).mono ?_; rintro e w4 ⟨rfl, hb4⟩
          have hby := Below.next_ hbz hb4
          have hcy := keepc hby hadb hcell
          clear hcz
          by_cases hle : z ≤ inOf W
          · obtain ⟨u, hu1, hu2, hu3, hu4, hu5, hu6⟩ := lv_nat (a := W) hz2 hle
            rw [hu1, hu2]
            clear hu1 hu2
            have H7 := Lib.hid hu5
            have H8 := Lib.hid hu6
            clear hu5 hu6
            go_wp2_with fail
            refine (inn _ (by omega) (by omega) _).mono ?_; rintro e w5 ⟨rfl, hb5⟩
            rw [H8.out]
            go_wp2_with fail
            refine (came _ (by omega) (by omega) _).mono ?_; rintro e w6 ⟨rfl, hb6⟩
            rw [H7.out]
            go_wp2_with fail
            go_roundw
            case rel => exact ⟨k + 1, u, by omega, hu3, hu4, by rw [H7.out]; omega, by rw [H8.out]; omega, by go_num, rfl, by rw [H8.out], Below.next_ hby (Below.next_ hb5 hb6)⟩
            case measure => simp [intOf]; omega
          · have hu := lv_f (a := W) (n := z) (by omega)
            rw [hu.1, hu.2]
            clear hu
            go_wp2_with fail
            refine (inn _ (by omega) (by omega) _).mono ?_; rintro e w5 ⟨rfl, hb5⟩
            go_wp2_with fail
            refine (came _ (by omega) (by omega) _).mono ?_; rintro e w6 ⟨rfl, hb6⟩
            go_wp2_with fail
            go_roundw
            case rel => exact ⟨k + 1, W, by omega, hW0, hW1, by omega, by omega, by go_num, rfl, rfl, Below.next_ hby (Below.next_ hb5 hb6)⟩
            case measure => simp [intOf]; omega
      · go_wp2_with fail
        refine (awake _).mono ?_; rintro e w7 ⟨rfl, hb7⟩
        go_wp2_with fail
        go_ret
        exact ⟨rfl, Below.next_ hb hb7⟩
end Go.Proofs.Ytmabonhpejkkfaa
