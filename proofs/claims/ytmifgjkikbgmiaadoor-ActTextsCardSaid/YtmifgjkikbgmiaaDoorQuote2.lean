/-
  Package quote: Print. No condition.
-/
import Derived.Test.YtmifgjkikbgmiaaDoorQuote
namespace Go.Proofs.YtmifgjkikbgmiaaDoor
set_option linter.unusedVariables false
open Go.RowKit Go.Extern.Stop Go.Stop Go.Extern Go.ChangeShapes

theorem sign_index {k : Nat} (h : k < 16) (W : World) : (Instr.index 9 (.string ⟨#[48, 49, 50, 51, 52, 53, 54, 55, 56, 57, 97, 98, 99, 100, 101, 102]⟩) (.int .u8 (k : Int))).run Tryd.prog W = .ok (.int .u8 (u8i (qdig k))) W := by
  have hsz : (⟨#[48, 49, 50, 51, 52, 53, 54, 55, 56, 57, 97, 98, 99, 100, 101, 102]⟩ : ByteArray).size = 16 := rfl
  rw [run_index_string W 9 _ .u8 k Tryd.underlying9, dif_pos ⟨by omega, by rw [hsz]; omega⟩]
  have := at_lf (A := ⟨#[48, 49, 50, 51, 52, 53, 54, 55, 56, 57, 97, 98, 99, 100, 101, 102]⟩) (L := signL) rfl (k := k) (by rw [hsz]; exact h)
  rw [sign_at h] at this
  unfold u8i
  rw [← this]
  rfl
set_option maxHeartbeats 1000000 in
theorem printQ_any (s : ByteArray) (hs : s.size ≤ 100000) (w : World) : Calls Tryd.prog 17 #[.string s] w fun e w' => e = .returned (strL (qprint s.data.toList)) ∧ Below w.heap.size w w' := by
  by_cases h0 : s.size = 0
  · obtain rfl : s = ⟨#[]⟩ := by
      apply ba_ext
      rw [List.eq_nil_of_length_eq_zero (show s.data.toList.length = 0 by rw [size_list_]; exact h0)]
    clear h0 hs
    go_enter Tryd.func17, Tryd.ntmps17
    go_wp2_with fail
    go_ret
    exact ⟨rfl, Below.refl _ _⟩
  · have hne := txt_ne_empty (s := s) (by omega)
    have hnb : (s.toList == []) = false := beq_eq_false_iff_ne.2 hne
    have hq := Lib.hid (qprint_flat (list_ne (s := s) (by omega)))
    have hb0 : Below w.heap.size w (w.alloc (.cells #[.pointer none, .slice none 0 0] 64)) := (Below.refl _ _).alloc (Nat.le_refl _) _
    have hW := Wrote.start (bld_new w)
    replace hb0 := Lib.hid hb0
    replace hW := Lib.hid hW
    go_enter Tryd.func17, Tryd.ntmps17
    go_wp2_with fail
    go_loopw [10] (fun i wr => ∃ k : Nat, i = .int .i64 k ∧ k ≤ s.size ∧ Wrote (fun n => n = w.heap.size) w.heap.size ((s.data.toList.take k).flatMap qone) (w.alloc (.cells #[.pointer none, .slice none 0 0] 64)) wr) (fun i _ => s.size + 1 - (intOf i).toNat)
    case atStart => exact ⟨0, rfl, by omega, hW.out⟩
    case round =>
      obtain ⟨k, rfl, hk, hWr⟩ := hrel
      have hBr : Below w.heap.size w wr := hb0.out.trans (hWr.2.below (fun n hn => by omega) hb0.out.size)
      replace hBr := Lib.hid hBr
      have hlen := flat_take_len s.data.toList k
      by_cases hlt : k < s.size
      · obtain ⟨c, hc, hsb⟩ := byte_at hlt
        have htk : (s.data.toList.take (k + 1)).flatMap qone = (s.data.toList.take k).flatMap qone ++ qone c := by rw [take_byte hc, flat_snoc]
        replace hc := Lib.hid hc
        replace htk := Lib.hid htk
        have hlt256 := c.toNat_lt
        generalize (s.data.toList.take k).flatMap qone = acc at *
        have hP := Lib.hid (plain_any c.toNat)
        cases hp : qplain c.toNat
        · have hq1 : qone c = [37, qdig (c.toNat / 16), qdig (c.toNat % 16)] := by rw [qone, hp]; rfl
          rw [hq1] at htk
          rw [hp] at hP
          obtain ⟨k1, hk1⟩ : ∃ k, k = c.toNat / 16 := ⟨_, rfl⟩
          obtain ⟨k2, hk2⟩ : ∃ k, k = c.toNat % 16 := ⟨_, rfl⟩
          have l1 : k1 < 16 := by omega
          have l2 : k2 < 16 := by omega
          rw [← hk1, ← hk2] at htk
          have s1 := fun W => sign_index l1 W
          have s2 := fun W => sign_index l2 W
          have q1 : (c.toNat : Int) / 16 = k1 := by omega
          have q2 : (c.toNat : Int) % 16 = k2 := by omega
          have q3 : bits .and .u8 (c.toNat : Int) 15 = k2 := (u8_and15 (x := (c.toNat : Int)) (by omega) (by omega)).trans q2
          generalize qdig k1 = x at *
          generalize qdig k2 = y at *
          replace hk1 := Lib.hid hk1
          replace hk2 := Lib.hid hk2
          replace hp := Lib.hid hp
          replace hq1 := Lib.hid hq1
          go_wp2_with fail
          refine (hP.out _).mono ?_; rintro e w1 ⟨rfl, rfl⟩
          go_wp2_with fail
          refine (writeByte_any w.heap.size acc 37 _ hWr.1 (by omega)).mono ?_; rintro e w1 ⟨rfl, h1⟩
          replace h1 := hWr.next_ (Below.refl _ _) h1
          go_wp2_with fail
          refine (writeByte_any w.heap.size _ x _ h1.1 (by simp; omega)).mono ?_; rintro e w2 ⟨rfl, h2⟩
          replace h2 := h1.next_ (Below.refl _ _) h2
          go_wp2_with fail
          refine (writeByte_any w.heap.size _ y _ h2.1 (by simp; omega)).mono ?_; rintro e w3 ⟨rfl, h3⟩
          replace h3 := h2.next_ (Below.refl _ _) h3
          go_wp2_with fail
          go_roundw
          case rel => exact ⟨k + 1, by go_num, by omega, by rw [htk.out]; simpa using h3⟩
          case measure => simp [intOf]; omega
        · have hq1 : qone c = [c] := by rw [qone, hp]; rfl
          rw [hq1] at htk
          rw [hp] at hP
          replace hp := Lib.hid hp
          replace hq1 := Lib.hid hq1
          go_wp2_with fail
          refine (hP.out _).mono ?_; rintro e w1 ⟨rfl, rfl⟩
          go_wp2_with fail
          refine (writeByte_any w.heap.size acc c _ hWr.1 (by omega)).mono ?_; rintro e w1 ⟨rfl, h1⟩
          replace h1 := hWr.next_ (Below.refl _ _) h1
          go_wp2_with fail
          go_roundw
          case rel => exact ⟨k + 1, by go_num, by omega, by rw [htk.out]; exact h1⟩
          case measure => simp [intOf]; omega
      · obtain rfl : k = s.size := by omega
        go_wp2_with fail
        refine (string_any w.heap.size _ wr hWr.1 (B := w.heap.size) ?c1).mono ?_
        case c1 =>
          rintro j (hj | hj)
          · omega
          · have := hb0.out.size; omega
        rintro e w2 ⟨rfl, hb2⟩
        have hB2 := hBr.out.trans hb2
        go_wp2_with fail
        go_ret
        refine ⟨?_, hB2⟩
        rw [hq.out, List.take_of_length_le (by rw [size_list_]; exact Nat.le_refl _)]
        rfl
end Go.Proofs.YtmifgjkikbgmiaaDoor
