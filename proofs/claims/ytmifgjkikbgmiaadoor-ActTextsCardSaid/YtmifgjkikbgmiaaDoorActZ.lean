/-
  philtreref18.Text, kind by kind; the text of any act (layer 18), where the table of powers lies. No condition. (Printed by tools/actz.py.)
-/
import Derived.Test.YtmifgjkikbgmiaaDoorActY
import Derived.Test.YtmifgjkikbgmiaaDoorRefS
namespace Go.Proofs.YtmifgjkikbgmiaaDoor
set_option linter.unusedVariables false
open Go.RowKit Go.Extern.Stop Go.Stop Go.Extern Go.ChangeShapes

@[irreducible] def d10 (n : Nat) : UInt8 := UInt8.ofNat (48 + n % 10)
theorem d10_eq (n : Nat) : 48 + (n : Int) % 10 = u8i (d10 n) := by
  unfold d10 u8i
  have : (UInt8.ofNat (48 + n % 10)).toNat = 48 + n % 10 := by simp; omega
  rw [this]
  omega
theorem dec_small {n : Nat} (h : n < 10) : Lib.decDigits n = [d10 n] := by
  unfold d10
  rw [Lib.decDigits, dif_pos h, Nat.mod_eq_of_lt h]
theorem dec_big {n : Nat} (h : ¬ n < 10) : Lib.decDigits n = Lib.decDigits (n / 10) ++ [d10 n] := by
  unfold d10
  rw [Lib.decDigits, dif_neg h]
/-- What is still to come ahead of the last digit. -/
def decHead (n : Nat) : List UInt8 := if n < 10 then [] else Lib.decDigits (n / 10)
theorem dec_head (n : Nat) : Lib.decDigits n = decHead n ++ [d10 n] := by
  unfold decHead
  split
  · exact dec_small (by assumption)
  · exact dec_big (by assumption)
theorem dec_len (n : Nat) (h : n < 18446744073709551616) : (Lib.decDigits n).length ≤ 20 := by rw [Lib.decDigits_length]; exact Lib.nDigits_le20 n h
set_option maxRecDepth 100000 in
theorem naturalA_any (n : Nat) (hn : n < 18446744073709551616) (w : World) :
    Calls Tryd.prog 19 #[.int .u64 n] w fun e w' => e = .returned (strL (Lib.decDigits n)) ∧ Below w.heap.size w w' := by
  have hc := conv_one w (d10 n)
  have hx := d10_eq n
  have hlen := dec_len n hn
  go_enter Tryd.func19, Tryd.ntmps19
  go_wp2_with fail
  go_loopw [0, 3] (fun m s wr => ∃ (k : Nat) (l : List UInt8), k ≤ n ∧ m = .int .u64 k ∧ s = .string (bs l) ∧ Lib.decDigits n = decHead k ++ l ∧ Below w.heap.size w wr) (fun m _ _ => (intOf m).toNat)
  case atStart => exact ⟨n, [d10 n], Nat.le_refl _, rfl, rfl, dec_head n, by (repeat first | exact Below.refl _ _ | assumption | refine Below.drew ?_ | refine below_drewN ?_ _ | refine Below.more_ ?_ _ | refine Below.setCell ?_ (by first | exact Nat.le_refl _ | (simp; done) | (simp; omega)) _)⟩
  case round =>
    obtain ⟨k, l, hk, rfl, rfl, hl, hb⟩ := hrel
    clear hc hx
    by_cases hlt : k < 10
    · have e : decHead k = [] := by unfold decHead; rw [if_pos hlt]
      rw [e, List.nil_append] at hl
      replace hl := Lib.hid hl
      replace e := Lib.hid e
      go_wp2_with fail
      go_ret
      exact ⟨by rw [hl.out]; rfl, hb⟩
    · have e : decHead k = decHead (k / 10) ++ [d10 (k / 10)] := by rw [← dec_head]; unfold decHead; rw [if_neg hlt]
      have hll : l.length ≤ 20 := by
        have := congrArg List.length hl
        simp at this
        omega
      have hc := conv_one wr (d10 (k / 10))
      have hx := d10_eq (k / 10)
      push_cast at hx
      have ha := fun W => add_str W [d10 (k / 10)] l (by simp; omega)
      rw [e, List.append_assoc] at hl
      replace hl := Lib.hid hl
      replace e := Lib.hid e
      go_wp2_with fail
      go_roundw
      case rel =>
        refine ⟨k / 10, [d10 (k / 10)] ++ l, by omega, ?_, rfl, hl.out, ?_⟩
        · go_num
        · (repeat first | exact Below.refl _ _ | assumption | refine Below.drew ?_ | refine below_drewN ?_ _ | refine Below.more_ ?_ _ | refine Below.setCell ?_ (by first | exact Nat.le_refl _ | (simp; done) | (simp; omega)) _)
      case measure => simp [intOf]; omega
set_option maxRecDepth 100000 in
set_option maxHeartbeats 2000000 in
theorem rtext_0 (B C O N : Nat) (t : ByteArray) (hB : B < 18446744073709551616) (hC : C ≤ 9223372036854775807) (hO : O < 18446744073709551616) (hN : N < 18446744073709551616) (ht : t.size ≤ 5000) (w : World) (hr : PAct.right ⟨0, B, C, O, N, ⟨#[]⟩⟩ = true) :
    Calls Tryd.prog 6 #[.agg #[.int .i64 0, .int .u64 B, .int .i64 C, .int .u64 O, .int .u64 N, .string ⟨#[]⟩]] w fun e w' => e = .returned (.string (bs (actName 0))) ∧ Below w.heap.size w w' := by
  have hR : ∀ W, Calls Tryd.prog 18 #[.agg #[.int .i64 0, .int .u64 B, .int .i64 C, .int .u64 O, .int .u64 N, .string ⟨#[]⟩]] W fun e W' => e = .returned (.bool true) ∧ Below W.heap.size W W' := fun W => by
    have h := rright_any ⟨0, B, C, O, N, ⟨#[]⟩⟩ W (Nat.zero_le _)
    rw [hr] at h
    exact h
  have nl := name_len 0
  have dB := dec_20 hB
  have dC := dec_20 (n := C) (by omega)
  have dO := dec_20 hO
  have dN := dec_20 hN
  have hwc : IntKind.u64.wrap (C : Int) = (C : Int) := by rw [IntKind.wrap_u64]; omega
  have hql := qprint_len t.data.toList
  rw [size_list_] at hql
  have hW0 : Below w.heap.size w (w.alloc (.cells #[.int .i64 0, .int .u64 B, .int .i64 C, .int .u64 O, .int .u64 N, .string ⟨#[]⟩] 24)) := (Below.refl _ _).alloc (Nat.le_refl _) _
  have B1 := Blk.new w 24 #[.int .i64 0, .int .u64 B, .int .i64 C, .int .u64 O, .int .u64 N, .string ⟨#[]⟩]
  have hfin : bs (actName 0) = bs (actName 0) := by simp
  replace hfin := Lib.hid hfin
  replace hR := Lib.hid hR
  replace hr := Lib.hid hr
  replace hW0 := Lib.hid hW0
  replace B1 := Lib.hid B1
  go_enter Tryd.func6, Tryd.ntmps6
  go_wp2_with fail
  refine (hR.out _).mono ?_; rintro e w1 ⟨rfl, hb1⟩
  have C1 := B1.out.below hb1 (by simp)
  have hz1 := nx hW0.out (Nat.le_refl _) hb1
  have hl1 := C1.lt
  have c0 := C1.cell 0
  have c1 := C1.cell 1
  have c2 := C1.cell 2
  have c3 := C1.cell 3
  have c4 := C1.cell 4
  have c5 := C1.cell 5
  replace C1 := Lib.hid C1
  replace hz1 := Lib.hid hz1
  clear hb1
  go_wp2_with fail
  go_ret
  exact ⟨by first | rfl | (rw [hfin.out]; rfl), by first | exact hz1.out | (have hzz := hz1.out; (repeat first | exact Below.refl _ _ | assumption | refine Below.drew ?_ | refine below_drewN ?_ _ | refine Below.more_ ?_ _ | refine Below.setCell ?_ (by first | exact Nat.le_refl _ | (simp; done) | (simp; omega)) _))⟩
set_option maxRecDepth 100000 in
set_option maxHeartbeats 2000000 in
theorem rtext_1 (B C O N : Nat) (t : ByteArray) (hB : B < 18446744073709551616) (hC : C ≤ 9223372036854775807) (hO : O < 18446744073709551616) (hN : N < 18446744073709551616) (ht : t.size ≤ 5000) (w : World) (hr : PAct.right ⟨1, B, C, O, N, ⟨#[]⟩⟩ = true) :
    Calls Tryd.prog 6 #[.agg #[.int .i64 1, .int .u64 B, .int .i64 C, .int .u64 O, .int .u64 N, .string ⟨#[]⟩]] w fun e w' => e = .returned (.string (bs (actName 1 ++ 32 :: (Lib.decDigits B ++ 32 :: Lib.decDigits C)))) ∧ Below w.heap.size w w' := by
  have hR : ∀ W, Calls Tryd.prog 18 #[.agg #[.int .i64 1, .int .u64 B, .int .i64 C, .int .u64 O, .int .u64 N, .string ⟨#[]⟩]] W fun e W' => e = .returned (.bool true) ∧ Below W.heap.size W W' := fun W => by
    have h := rright_any ⟨1, B, C, O, N, ⟨#[]⟩⟩ W (Nat.zero_le _)
    rw [hr] at h
    exact h
  have nl := name_len 1
  have dB := dec_20 hB
  have dC := dec_20 (n := C) (by omega)
  have dO := dec_20 hO
  have dN := dec_20 hN
  have hwc : IntKind.u64.wrap (C : Int) = (C : Int) := by rw [IntKind.wrap_u64]; omega
  have hql := qprint_len t.data.toList
  rw [size_list_] at hql
  have hW0 : Below w.heap.size w (w.alloc (.cells #[.int .i64 1, .int .u64 B, .int .i64 C, .int .u64 O, .int .u64 N, .string ⟨#[]⟩] 24)) := (Below.refl _ _).alloc (Nat.le_refl _) _
  have B1 := Blk.new w 24 #[.int .i64 1, .int .u64 B, .int .i64 C, .int .u64 O, .int .u64 N, .string ⟨#[]⟩]
  have a0 : ∀ W, (Op.stringOp .add (⟨#[108, 111, 97, 100]⟩) ⟨#[32]⟩).run Tryd.prog W = .ok (.string (bs ((actName 1) ++ [32]))) W := fun W => add_str W (actName 1) [32] (by simp; omega)
  have b0 := fun W => add_str W ((actName 1) ++ [32]) (Lib.decDigits B) (by simp; omega)
  have p0 : ∀ W, Calls Tryd.prog 19 #[.int .u64 B] W fun e w' => e = .returned (.string (bs (Lib.decDigits B))) ∧ Below W.heap.size W w' := fun W => naturalA_any B hB W
  have a1 : ∀ W, (Op.stringOp .add (bs (((actName 1) ++ [32]) ++ Lib.decDigits B)) ⟨#[32]⟩).run Tryd.prog W = .ok (.string (bs ((((actName 1) ++ [32]) ++ Lib.decDigits B) ++ [32]))) W := fun W => add_str W (((actName 1) ++ [32]) ++ Lib.decDigits B) [32] (by simp; omega)
  have b1 := fun W => add_str W ((((actName 1) ++ [32]) ++ Lib.decDigits B) ++ [32]) (Lib.decDigits C) (by simp; omega)
  have p1 : ∀ W, Calls Tryd.prog 19 #[.int .u64 C] W fun e w' => e = .returned (.string (bs (Lib.decDigits C))) ∧ Below W.heap.size W w' := fun W => naturalA_any C (by omega) W
  have hfin : bs (actName 1 ++ 32 :: (Lib.decDigits B ++ 32 :: Lib.decDigits C)) = bs (((((actName 1) ++ [32]) ++ Lib.decDigits B) ++ [32]) ++ Lib.decDigits C) := by simp
  generalize ((((actName 1) ++ [32]) ++ Lib.decDigits B) ++ [32]) ++ Lib.decDigits C = X4 at *
  generalize (((actName 1) ++ [32]) ++ Lib.decDigits B) ++ [32] = X3 at *
  generalize ((actName 1) ++ [32]) ++ Lib.decDigits B = X2 at *
  generalize (actName 1) ++ [32] = X1 at *
  replace p0 := Lib.hid p0
  replace p1 := Lib.hid p1
  replace hfin := Lib.hid hfin
  replace hR := Lib.hid hR
  replace hr := Lib.hid hr
  replace hW0 := Lib.hid hW0
  replace B1 := Lib.hid B1
  go_enter Tryd.func6, Tryd.ntmps6
  go_wp2_with fail
  refine (hR.out _).mono ?_; rintro e w1 ⟨rfl, hb1⟩
  have C1 := B1.out.below hb1 (by simp)
  have hz1 := nx hW0.out (Nat.le_refl _) hb1
  have hl1 := C1.lt
  have c0 := C1.cell 0
  have c1 := C1.cell 1
  have c2 := C1.cell 2
  have c3 := C1.cell 3
  have c4 := C1.cell 4
  have c5 := C1.cell 5
  replace C1 := Lib.hid C1
  replace hz1 := Lib.hid hz1
  clear hb1
  go_wp2_with fail
  refine (p0.out _).mono ?_; rintro e w2 ⟨rfl, hb2⟩
  have hzx := Below.more_ hz1.out (.cells #[.string ⟨#[110, 111, 110, 101]⟩, .string ⟨#[108, 111, 97, 100]⟩, .string ⟨#[115, 116, 111, 114, 101]⟩, .string ⟨#[115, 119, 97, 112]⟩, .string ⟨#[98, 117, 109, 112]⟩, .string ⟨#[109, 97, 107, 101]⟩, .string ⟨#[119, 111, 114, 100, 115]⟩, .string ⟨#[100, 114, 111, 112]⟩, .string ⟨#[108, 111, 99, 107]⟩, .string ⟨#[117, 110, 108, 111, 99, 107]⟩, .string ⟨#[97, 119, 97, 105, 116]⟩] 9)
  have C2 := (C1.out.alloc (.cells #[.string ⟨#[110, 111, 110, 101]⟩, .string ⟨#[108, 111, 97, 100]⟩, .string ⟨#[115, 116, 111, 114, 101]⟩, .string ⟨#[115, 119, 97, 112]⟩, .string ⟨#[98, 117, 109, 112]⟩, .string ⟨#[109, 97, 107, 101]⟩, .string ⟨#[119, 111, 114, 100, 115]⟩, .string ⟨#[100, 114, 111, 112]⟩, .string ⟨#[108, 111, 99, 107]⟩, .string ⟨#[117, 110, 108, 111, 99, 107]⟩, .string ⟨#[97, 119, 97, 105, 116]⟩] 9)).below hb2 (by simp; omega)
  have hz2 := Below.next_ hzx hb2
  clear c0 c1 c2 c3 c4 c5
  have c0 := C2.cell 0
  have c1 := C2.cell 1
  have c2 := C2.cell 2
  have c3 := C2.cell 3
  have c4 := C2.cell 4
  have c5 := C2.cell 5
  replace C2 := Lib.hid C2
  replace hz2 := Lib.hid hz2
  clear hb2
  go_wp2_with fail
  refine (p1.out _).mono ?_; rintro e w3 ⟨rfl, hb3⟩
  have C3 := C2.out.below hb3 C2.out.lt
  have hz3 := Below.next_ hz2.out hb3
  clear c0 c1 c2 c3 c4 c5
  have c0 := C3.cell 0
  have c1 := C3.cell 1
  have c2 := C3.cell 2
  have c3 := C3.cell 3
  have c4 := C3.cell 4
  have c5 := C3.cell 5
  replace C3 := Lib.hid C3
  replace hz3 := Lib.hid hz3
  clear hb3
  go_wp2_with fail
  go_ret
  exact ⟨by first | rfl | (rw [hfin.out]; rfl), by first | exact hz3.out | (have hzz := hz3.out; (repeat first | exact Below.refl _ _ | assumption | refine Below.drew ?_ | refine below_drewN ?_ _ | refine Below.more_ ?_ _ | refine Below.setCell ?_ (by first | exact Nat.le_refl _ | (simp; done) | (simp; omega)) _))⟩
set_option maxRecDepth 100000 in
set_option maxHeartbeats 2000000 in
theorem rtext_2 (B C O N : Nat) (t : ByteArray) (hB : B < 18446744073709551616) (hC : C ≤ 9223372036854775807) (hO : O < 18446744073709551616) (hN : N < 18446744073709551616) (ht : t.size ≤ 5000) (w : World) (hr : PAct.right ⟨2, B, C, O, N, ⟨#[]⟩⟩ = true) :
    Calls Tryd.prog 6 #[.agg #[.int .i64 2, .int .u64 B, .int .i64 C, .int .u64 O, .int .u64 N, .string ⟨#[]⟩]] w fun e w' => e = .returned (.string (bs (actName 2 ++ 32 :: (Lib.decDigits B ++ 32 :: (Lib.decDigits C ++ 32 :: Lib.decDigits N))))) ∧ Below w.heap.size w w' := by
  have hR : ∀ W, Calls Tryd.prog 18 #[.agg #[.int .i64 2, .int .u64 B, .int .i64 C, .int .u64 O, .int .u64 N, .string ⟨#[]⟩]] W fun e W' => e = .returned (.bool true) ∧ Below W.heap.size W W' := fun W => by
    have h := rright_any ⟨2, B, C, O, N, ⟨#[]⟩⟩ W (Nat.zero_le _)
    rw [hr] at h
    exact h
  have nl := name_len 2
  have dB := dec_20 hB
  have dC := dec_20 (n := C) (by omega)
  have dO := dec_20 hO
  have dN := dec_20 hN
  have hwc : IntKind.u64.wrap (C : Int) = (C : Int) := by rw [IntKind.wrap_u64]; omega
  have hql := qprint_len t.data.toList
  rw [size_list_] at hql
  have hW0 : Below w.heap.size w (w.alloc (.cells #[.int .i64 2, .int .u64 B, .int .i64 C, .int .u64 O, .int .u64 N, .string ⟨#[]⟩] 24)) := (Below.refl _ _).alloc (Nat.le_refl _) _
  have B1 := Blk.new w 24 #[.int .i64 2, .int .u64 B, .int .i64 C, .int .u64 O, .int .u64 N, .string ⟨#[]⟩]
  have a0 : ∀ W, (Op.stringOp .add (⟨#[115, 116, 111, 114, 101]⟩) ⟨#[32]⟩).run Tryd.prog W = .ok (.string (bs ((actName 2) ++ [32]))) W := fun W => add_str W (actName 2) [32] (by simp; omega)
  have b0 := fun W => add_str W ((actName 2) ++ [32]) (Lib.decDigits B) (by simp; omega)
  have p0 : ∀ W, Calls Tryd.prog 19 #[.int .u64 B] W fun e w' => e = .returned (.string (bs (Lib.decDigits B))) ∧ Below W.heap.size W w' := fun W => naturalA_any B hB W
  have a1 : ∀ W, (Op.stringOp .add (bs (((actName 2) ++ [32]) ++ Lib.decDigits B)) ⟨#[32]⟩).run Tryd.prog W = .ok (.string (bs ((((actName 2) ++ [32]) ++ Lib.decDigits B) ++ [32]))) W := fun W => add_str W (((actName 2) ++ [32]) ++ Lib.decDigits B) [32] (by simp; omega)
  have b1 := fun W => add_str W ((((actName 2) ++ [32]) ++ Lib.decDigits B) ++ [32]) (Lib.decDigits C) (by simp; omega)
  have p1 : ∀ W, Calls Tryd.prog 19 #[.int .u64 C] W fun e w' => e = .returned (.string (bs (Lib.decDigits C))) ∧ Below W.heap.size W w' := fun W => naturalA_any C (by omega) W
  have a2 : ∀ W, (Op.stringOp .add (bs (((((actName 2) ++ [32]) ++ Lib.decDigits B) ++ [32]) ++ Lib.decDigits C)) ⟨#[32]⟩).run Tryd.prog W = .ok (.string (bs ((((((actName 2) ++ [32]) ++ Lib.decDigits B) ++ [32]) ++ Lib.decDigits C) ++ [32]))) W := fun W => add_str W (((((actName 2) ++ [32]) ++ Lib.decDigits B) ++ [32]) ++ Lib.decDigits C) [32] (by simp; omega)
  have b2 := fun W => add_str W ((((((actName 2) ++ [32]) ++ Lib.decDigits B) ++ [32]) ++ Lib.decDigits C) ++ [32]) (Lib.decDigits N) (by simp; omega)
  have p2 : ∀ W, Calls Tryd.prog 19 #[.int .u64 N] W fun e w' => e = .returned (.string (bs (Lib.decDigits N))) ∧ Below W.heap.size W w' := fun W => naturalA_any N hN W
  have hfin : bs (actName 2 ++ 32 :: (Lib.decDigits B ++ 32 :: (Lib.decDigits C ++ 32 :: Lib.decDigits N))) = bs (((((((actName 2) ++ [32]) ++ Lib.decDigits B) ++ [32]) ++ Lib.decDigits C) ++ [32]) ++ Lib.decDigits N) := by simp
  generalize ((((((actName 2) ++ [32]) ++ Lib.decDigits B) ++ [32]) ++ Lib.decDigits C) ++ [32]) ++ Lib.decDigits N = X6 at *
  generalize (((((actName 2) ++ [32]) ++ Lib.decDigits B) ++ [32]) ++ Lib.decDigits C) ++ [32] = X5 at *
  generalize ((((actName 2) ++ [32]) ++ Lib.decDigits B) ++ [32]) ++ Lib.decDigits C = X4 at *
  generalize (((actName 2) ++ [32]) ++ Lib.decDigits B) ++ [32] = X3 at *
  generalize ((actName 2) ++ [32]) ++ Lib.decDigits B = X2 at *
  generalize (actName 2) ++ [32] = X1 at *
  replace p0 := Lib.hid p0
  replace p1 := Lib.hid p1
  replace p2 := Lib.hid p2
  replace hfin := Lib.hid hfin
  replace hR := Lib.hid hR
  replace hr := Lib.hid hr
  replace hW0 := Lib.hid hW0
  replace B1 := Lib.hid B1
  go_enter Tryd.func6, Tryd.ntmps6
  go_wp2_with fail
  refine (hR.out _).mono ?_; rintro e w1 ⟨rfl, hb1⟩
  have C1 := B1.out.below hb1 (by simp)
  have hz1 := nx hW0.out (Nat.le_refl _) hb1
  have hl1 := C1.lt
  have c0 := C1.cell 0
  have c1 := C1.cell 1
  have c2 := C1.cell 2
  have c3 := C1.cell 3
  have c4 := C1.cell 4
  have c5 := C1.cell 5
  replace C1 := Lib.hid C1
  replace hz1 := Lib.hid hz1
  clear hb1
  go_wp2_with fail
  refine (p0.out _).mono ?_; rintro e w2 ⟨rfl, hb2⟩
  have hzx := Below.more_ hz1.out (.cells #[.string ⟨#[110, 111, 110, 101]⟩, .string ⟨#[108, 111, 97, 100]⟩, .string ⟨#[115, 116, 111, 114, 101]⟩, .string ⟨#[115, 119, 97, 112]⟩, .string ⟨#[98, 117, 109, 112]⟩, .string ⟨#[109, 97, 107, 101]⟩, .string ⟨#[119, 111, 114, 100, 115]⟩, .string ⟨#[100, 114, 111, 112]⟩, .string ⟨#[108, 111, 99, 107]⟩, .string ⟨#[117, 110, 108, 111, 99, 107]⟩, .string ⟨#[97, 119, 97, 105, 116]⟩] 9)
  have C2 := (C1.out.alloc (.cells #[.string ⟨#[110, 111, 110, 101]⟩, .string ⟨#[108, 111, 97, 100]⟩, .string ⟨#[115, 116, 111, 114, 101]⟩, .string ⟨#[115, 119, 97, 112]⟩, .string ⟨#[98, 117, 109, 112]⟩, .string ⟨#[109, 97, 107, 101]⟩, .string ⟨#[119, 111, 114, 100, 115]⟩, .string ⟨#[100, 114, 111, 112]⟩, .string ⟨#[108, 111, 99, 107]⟩, .string ⟨#[117, 110, 108, 111, 99, 107]⟩, .string ⟨#[97, 119, 97, 105, 116]⟩] 9)).below hb2 (by simp; omega)
  have hz2 := Below.next_ hzx hb2
  clear c0 c1 c2 c3 c4 c5
  have c0 := C2.cell 0
  have c1 := C2.cell 1
  have c2 := C2.cell 2
  have c3 := C2.cell 3
  have c4 := C2.cell 4
  have c5 := C2.cell 5
  replace C2 := Lib.hid C2
  replace hz2 := Lib.hid hz2
  clear hb2
  go_wp2_with fail
  refine (p1.out _).mono ?_; rintro e w3 ⟨rfl, hb3⟩
  have C3 := C2.out.below hb3 C2.out.lt
  have hz3 := Below.next_ hz2.out hb3
  clear c0 c1 c2 c3 c4 c5
  have c0 := C3.cell 0
  have c1 := C3.cell 1
  have c2 := C3.cell 2
  have c3 := C3.cell 3
  have c4 := C3.cell 4
  have c5 := C3.cell 5
  replace C3 := Lib.hid C3
  replace hz3 := Lib.hid hz3
  clear hb3
  go_wp2_with fail
  refine (p2.out _).mono ?_; rintro e w4 ⟨rfl, hb4⟩
  have C4 := C3.out.below hb4 C3.out.lt
  have hz4 := Below.next_ hz3.out hb4
  clear c0 c1 c2 c3 c4 c5
  have c0 := C4.cell 0
  have c1 := C4.cell 1
  have c2 := C4.cell 2
  have c3 := C4.cell 3
  have c4 := C4.cell 4
  have c5 := C4.cell 5
  replace C4 := Lib.hid C4
  replace hz4 := Lib.hid hz4
  clear hb4
  go_wp2_with fail
  go_ret
  exact ⟨by first | rfl | (rw [hfin.out]; rfl), by first | exact hz4.out | (have hzz := hz4.out; (repeat first | exact Below.refl _ _ | assumption | refine Below.drew ?_ | refine below_drewN ?_ _ | refine Below.more_ ?_ _ | refine Below.setCell ?_ (by first | exact Nat.le_refl _ | (simp; done) | (simp; omega)) _))⟩
set_option maxRecDepth 100000 in
set_option maxHeartbeats 2000000 in
theorem rtext_3 (B C O N : Nat) (t : ByteArray) (hB : B < 18446744073709551616) (hC : C ≤ 9223372036854775807) (hO : O < 18446744073709551616) (hN : N < 18446744073709551616) (ht : t.size ≤ 5000) (w : World) (hr : PAct.right ⟨3, B, C, O, N, ⟨#[]⟩⟩ = true) :
    Calls Tryd.prog 6 #[.agg #[.int .i64 3, .int .u64 B, .int .i64 C, .int .u64 O, .int .u64 N, .string ⟨#[]⟩]] w fun e w' => e = .returned (.string (bs (actName 3 ++ 32 :: (Lib.decDigits B ++ 32 :: (Lib.decDigits C ++ 32 :: (Lib.decDigits O ++ 32 :: Lib.decDigits N)))))) ∧ Below w.heap.size w w' := by
  have hR : ∀ W, Calls Tryd.prog 18 #[.agg #[.int .i64 3, .int .u64 B, .int .i64 C, .int .u64 O, .int .u64 N, .string ⟨#[]⟩]] W fun e W' => e = .returned (.bool true) ∧ Below W.heap.size W W' := fun W => by
    have h := rright_any ⟨3, B, C, O, N, ⟨#[]⟩⟩ W (Nat.zero_le _)
    rw [hr] at h
    exact h
  have nl := name_len 3
  have dB := dec_20 hB
  have dC := dec_20 (n := C) (by omega)
  have dO := dec_20 hO
  have dN := dec_20 hN
  have hwc : IntKind.u64.wrap (C : Int) = (C : Int) := by rw [IntKind.wrap_u64]; omega
  have hql := qprint_len t.data.toList
  rw [size_list_] at hql
  have hW0 : Below w.heap.size w (w.alloc (.cells #[.int .i64 3, .int .u64 B, .int .i64 C, .int .u64 O, .int .u64 N, .string ⟨#[]⟩] 24)) := (Below.refl _ _).alloc (Nat.le_refl _) _
  have B1 := Blk.new w 24 #[.int .i64 3, .int .u64 B, .int .i64 C, .int .u64 O, .int .u64 N, .string ⟨#[]⟩]
  have a0 : ∀ W, (Op.stringOp .add (⟨#[115, 119, 97, 112]⟩) ⟨#[32]⟩).run Tryd.prog W = .ok (.string (bs ((actName 3) ++ [32]))) W := fun W => add_str W (actName 3) [32] (by simp; omega)
  have b0 := fun W => add_str W ((actName 3) ++ [32]) (Lib.decDigits B) (by simp; omega)
  have p0 : ∀ W, Calls Tryd.prog 19 #[.int .u64 B] W fun e w' => e = .returned (.string (bs (Lib.decDigits B))) ∧ Below W.heap.size W w' := fun W => naturalA_any B hB W
  have a1 : ∀ W, (Op.stringOp .add (bs (((actName 3) ++ [32]) ++ Lib.decDigits B)) ⟨#[32]⟩).run Tryd.prog W = .ok (.string (bs ((((actName 3) ++ [32]) ++ Lib.decDigits B) ++ [32]))) W := fun W => add_str W (((actName 3) ++ [32]) ++ Lib.decDigits B) [32] (by simp; omega)
  have b1 := fun W => add_str W ((((actName 3) ++ [32]) ++ Lib.decDigits B) ++ [32]) (Lib.decDigits C) (by simp; omega)
  have p1 : ∀ W, Calls Tryd.prog 19 #[.int .u64 C] W fun e w' => e = .returned (.string (bs (Lib.decDigits C))) ∧ Below W.heap.size W w' := fun W => naturalA_any C (by omega) W
  have a2 : ∀ W, (Op.stringOp .add (bs (((((actName 3) ++ [32]) ++ Lib.decDigits B) ++ [32]) ++ Lib.decDigits C)) ⟨#[32]⟩).run Tryd.prog W = .ok (.string (bs ((((((actName 3) ++ [32]) ++ Lib.decDigits B) ++ [32]) ++ Lib.decDigits C) ++ [32]))) W := fun W => add_str W (((((actName 3) ++ [32]) ++ Lib.decDigits B) ++ [32]) ++ Lib.decDigits C) [32] (by simp; omega)
  have b2 := fun W => add_str W ((((((actName 3) ++ [32]) ++ Lib.decDigits B) ++ [32]) ++ Lib.decDigits C) ++ [32]) (Lib.decDigits O) (by simp; omega)
  have p2 : ∀ W, Calls Tryd.prog 19 #[.int .u64 O] W fun e w' => e = .returned (.string (bs (Lib.decDigits O))) ∧ Below W.heap.size W w' := fun W => naturalA_any O hO W
  have a3 : ∀ W, (Op.stringOp .add (bs (((((((actName 3) ++ [32]) ++ Lib.decDigits B) ++ [32]) ++ Lib.decDigits C) ++ [32]) ++ Lib.decDigits O)) ⟨#[32]⟩).run Tryd.prog W = .ok (.string (bs ((((((((actName 3) ++ [32]) ++ Lib.decDigits B) ++ [32]) ++ Lib.decDigits C) ++ [32]) ++ Lib.decDigits O) ++ [32]))) W := fun W => add_str W (((((((actName 3) ++ [32]) ++ Lib.decDigits B) ++ [32]) ++ Lib.decDigits C) ++ [32]) ++ Lib.decDigits O) [32] (by simp; omega)
  have b3 := fun W => add_str W ((((((((actName 3) ++ [32]) ++ Lib.decDigits B) ++ [32]) ++ Lib.decDigits C) ++ [32]) ++ Lib.decDigits O) ++ [32]) (Lib.decDigits N) (by simp; omega)
  have p3 : ∀ W, Calls Tryd.prog 19 #[.int .u64 N] W fun e w' => e = .returned (.string (bs (Lib.decDigits N))) ∧ Below W.heap.size W w' := fun W => naturalA_any N hN W
  have hfin : bs (actName 3 ++ 32 :: (Lib.decDigits B ++ 32 :: (Lib.decDigits C ++ 32 :: (Lib.decDigits O ++ 32 :: Lib.decDigits N)))) = bs (((((((((actName 3) ++ [32]) ++ Lib.decDigits B) ++ [32]) ++ Lib.decDigits C) ++ [32]) ++ Lib.decDigits O) ++ [32]) ++ Lib.decDigits N) := by simp
  generalize ((((((((actName 3) ++ [32]) ++ Lib.decDigits B) ++ [32]) ++ Lib.decDigits C) ++ [32]) ++ Lib.decDigits O) ++ [32]) ++ Lib.decDigits N = X8 at *
  generalize (((((((actName 3) ++ [32]) ++ Lib.decDigits B) ++ [32]) ++ Lib.decDigits C) ++ [32]) ++ Lib.decDigits O) ++ [32] = X7 at *
  generalize ((((((actName 3) ++ [32]) ++ Lib.decDigits B) ++ [32]) ++ Lib.decDigits C) ++ [32]) ++ Lib.decDigits O = X6 at *
  generalize (((((actName 3) ++ [32]) ++ Lib.decDigits B) ++ [32]) ++ Lib.decDigits C) ++ [32] = X5 at *
  generalize ((((actName 3) ++ [32]) ++ Lib.decDigits B) ++ [32]) ++ Lib.decDigits C = X4 at *
  generalize (((actName 3) ++ [32]) ++ Lib.decDigits B) ++ [32] = X3 at *
  generalize ((actName 3) ++ [32]) ++ Lib.decDigits B = X2 at *
  generalize (actName 3) ++ [32] = X1 at *
  replace p0 := Lib.hid p0
  replace p1 := Lib.hid p1
  replace p2 := Lib.hid p2
  replace p3 := Lib.hid p3
  replace hfin := Lib.hid hfin
  replace hR := Lib.hid hR
  replace hr := Lib.hid hr
  replace hW0 := Lib.hid hW0
  replace B1 := Lib.hid B1
  go_enter Tryd.func6, Tryd.ntmps6
  go_wp2_with fail
  refine (hR.out _).mono ?_; rintro e w1 ⟨rfl, hb1⟩
  have C1 := B1.out.below hb1 (by simp)
  have hz1 := nx hW0.out (Nat.le_refl _) hb1
  have hl1 := C1.lt
  have c0 := C1.cell 0
  have c1 := C1.cell 1
  have c2 := C1.cell 2
  have c3 := C1.cell 3
  have c4 := C1.cell 4
  have c5 := C1.cell 5
  replace C1 := Lib.hid C1
  replace hz1 := Lib.hid hz1
  clear hb1
  go_wp2_with fail
  refine (p0.out _).mono ?_; rintro e w2 ⟨rfl, hb2⟩
  have hzx := Below.more_ hz1.out (.cells #[.string ⟨#[110, 111, 110, 101]⟩, .string ⟨#[108, 111, 97, 100]⟩, .string ⟨#[115, 116, 111, 114, 101]⟩, .string ⟨#[115, 119, 97, 112]⟩, .string ⟨#[98, 117, 109, 112]⟩, .string ⟨#[109, 97, 107, 101]⟩, .string ⟨#[119, 111, 114, 100, 115]⟩, .string ⟨#[100, 114, 111, 112]⟩, .string ⟨#[108, 111, 99, 107]⟩, .string ⟨#[117, 110, 108, 111, 99, 107]⟩, .string ⟨#[97, 119, 97, 105, 116]⟩] 9)
  have C2 := (C1.out.alloc (.cells #[.string ⟨#[110, 111, 110, 101]⟩, .string ⟨#[108, 111, 97, 100]⟩, .string ⟨#[115, 116, 111, 114, 101]⟩, .string ⟨#[115, 119, 97, 112]⟩, .string ⟨#[98, 117, 109, 112]⟩, .string ⟨#[109, 97, 107, 101]⟩, .string ⟨#[119, 111, 114, 100, 115]⟩, .string ⟨#[100, 114, 111, 112]⟩, .string ⟨#[108, 111, 99, 107]⟩, .string ⟨#[117, 110, 108, 111, 99, 107]⟩, .string ⟨#[97, 119, 97, 105, 116]⟩] 9)).below hb2 (by simp; omega)
  have hz2 := Below.next_ hzx hb2
  clear c0 c1 c2 c3 c4 c5
  have c0 := C2.cell 0
  have c1 := C2.cell 1
  have c2 := C2.cell 2
  have c3 := C2.cell 3
  have c4 := C2.cell 4
  have c5 := C2.cell 5
  replace C2 := Lib.hid C2
  replace hz2 := Lib.hid hz2
  clear hb2
  go_wp2_with fail
  refine (p1.out _).mono ?_; rintro e w3 ⟨rfl, hb3⟩
  have C3 := C2.out.below hb3 C2.out.lt
  have hz3 := Below.next_ hz2.out hb3
  clear c0 c1 c2 c3 c4 c5
  have c0 := C3.cell 0
  have c1 := C3.cell 1
  have c2 := C3.cell 2
  have c3 := C3.cell 3
  have c4 := C3.cell 4
  have c5 := C3.cell 5
  replace C3 := Lib.hid C3
  replace hz3 := Lib.hid hz3
  clear hb3
  go_wp2_with fail
  refine (p2.out _).mono ?_; rintro e w4 ⟨rfl, hb4⟩
  have C4 := C3.out.below hb4 C3.out.lt
  have hz4 := Below.next_ hz3.out hb4
  clear c0 c1 c2 c3 c4 c5
  have c0 := C4.cell 0
  have c1 := C4.cell 1
  have c2 := C4.cell 2
  have c3 := C4.cell 3
  have c4 := C4.cell 4
  have c5 := C4.cell 5
  replace C4 := Lib.hid C4
  replace hz4 := Lib.hid hz4
  clear hb4
  go_wp2_with fail
  refine (p3.out _).mono ?_; rintro e w5 ⟨rfl, hb5⟩
  have C5 := C4.out.below hb5 C4.out.lt
  have hz5 := Below.next_ hz4.out hb5
  clear c0 c1 c2 c3 c4 c5
  have c0 := C5.cell 0
  have c1 := C5.cell 1
  have c2 := C5.cell 2
  have c3 := C5.cell 3
  have c4 := C5.cell 4
  have c5 := C5.cell 5
  replace C5 := Lib.hid C5
  replace hz5 := Lib.hid hz5
  clear hb5
  go_wp2_with fail
  go_ret
  exact ⟨by first | rfl | (rw [hfin.out]; rfl), by first | exact hz5.out | (have hzz := hz5.out; (repeat first | exact Below.refl _ _ | assumption | refine Below.drew ?_ | refine below_drewN ?_ _ | refine Below.more_ ?_ _ | refine Below.setCell ?_ (by first | exact Nat.le_refl _ | (simp; done) | (simp; omega)) _))⟩
set_option maxRecDepth 100000 in
set_option maxHeartbeats 2000000 in
theorem rtext_4 (B C O N : Nat) (t : ByteArray) (hB : B < 18446744073709551616) (hC : C ≤ 9223372036854775807) (hO : O < 18446744073709551616) (hN : N < 18446744073709551616) (ht : t.size ≤ 5000) (w : World) (hr : PAct.right ⟨4, B, C, O, N, ⟨#[]⟩⟩ = true) :
    Calls Tryd.prog 6 #[.agg #[.int .i64 4, .int .u64 B, .int .i64 C, .int .u64 O, .int .u64 N, .string ⟨#[]⟩]] w fun e w' => e = .returned (.string (bs (actName 4 ++ 32 :: (Lib.decDigits B ++ 32 :: (Lib.decDigits C ++ 32 :: Lib.decDigits N))))) ∧ Below w.heap.size w w' := by
  have hR : ∀ W, Calls Tryd.prog 18 #[.agg #[.int .i64 4, .int .u64 B, .int .i64 C, .int .u64 O, .int .u64 N, .string ⟨#[]⟩]] W fun e W' => e = .returned (.bool true) ∧ Below W.heap.size W W' := fun W => by
    have h := rright_any ⟨4, B, C, O, N, ⟨#[]⟩⟩ W (Nat.zero_le _)
    rw [hr] at h
    exact h
  have nl := name_len 4
  have dB := dec_20 hB
  have dC := dec_20 (n := C) (by omega)
  have dO := dec_20 hO
  have dN := dec_20 hN
  have hwc : IntKind.u64.wrap (C : Int) = (C : Int) := by rw [IntKind.wrap_u64]; omega
  have hql := qprint_len t.data.toList
  rw [size_list_] at hql
  have hW0 : Below w.heap.size w (w.alloc (.cells #[.int .i64 4, .int .u64 B, .int .i64 C, .int .u64 O, .int .u64 N, .string ⟨#[]⟩] 24)) := (Below.refl _ _).alloc (Nat.le_refl _) _
  have B1 := Blk.new w 24 #[.int .i64 4, .int .u64 B, .int .i64 C, .int .u64 O, .int .u64 N, .string ⟨#[]⟩]
  have a0 : ∀ W, (Op.stringOp .add (⟨#[98, 117, 109, 112]⟩) ⟨#[32]⟩).run Tryd.prog W = .ok (.string (bs ((actName 4) ++ [32]))) W := fun W => add_str W (actName 4) [32] (by simp; omega)
  have b0 := fun W => add_str W ((actName 4) ++ [32]) (Lib.decDigits B) (by simp; omega)
  have p0 : ∀ W, Calls Tryd.prog 19 #[.int .u64 B] W fun e w' => e = .returned (.string (bs (Lib.decDigits B))) ∧ Below W.heap.size W w' := fun W => naturalA_any B hB W
  have a1 : ∀ W, (Op.stringOp .add (bs (((actName 4) ++ [32]) ++ Lib.decDigits B)) ⟨#[32]⟩).run Tryd.prog W = .ok (.string (bs ((((actName 4) ++ [32]) ++ Lib.decDigits B) ++ [32]))) W := fun W => add_str W (((actName 4) ++ [32]) ++ Lib.decDigits B) [32] (by simp; omega)
  have b1 := fun W => add_str W ((((actName 4) ++ [32]) ++ Lib.decDigits B) ++ [32]) (Lib.decDigits C) (by simp; omega)
  have p1 : ∀ W, Calls Tryd.prog 19 #[.int .u64 C] W fun e w' => e = .returned (.string (bs (Lib.decDigits C))) ∧ Below W.heap.size W w' := fun W => naturalA_any C (by omega) W
  have a2 : ∀ W, (Op.stringOp .add (bs (((((actName 4) ++ [32]) ++ Lib.decDigits B) ++ [32]) ++ Lib.decDigits C)) ⟨#[32]⟩).run Tryd.prog W = .ok (.string (bs ((((((actName 4) ++ [32]) ++ Lib.decDigits B) ++ [32]) ++ Lib.decDigits C) ++ [32]))) W := fun W => add_str W (((((actName 4) ++ [32]) ++ Lib.decDigits B) ++ [32]) ++ Lib.decDigits C) [32] (by simp; omega)
  have b2 := fun W => add_str W ((((((actName 4) ++ [32]) ++ Lib.decDigits B) ++ [32]) ++ Lib.decDigits C) ++ [32]) (Lib.decDigits N) (by simp; omega)
  have p2 : ∀ W, Calls Tryd.prog 19 #[.int .u64 N] W fun e w' => e = .returned (.string (bs (Lib.decDigits N))) ∧ Below W.heap.size W w' := fun W => naturalA_any N hN W
  have hfin : bs (actName 4 ++ 32 :: (Lib.decDigits B ++ 32 :: (Lib.decDigits C ++ 32 :: Lib.decDigits N))) = bs (((((((actName 4) ++ [32]) ++ Lib.decDigits B) ++ [32]) ++ Lib.decDigits C) ++ [32]) ++ Lib.decDigits N) := by simp
  generalize ((((((actName 4) ++ [32]) ++ Lib.decDigits B) ++ [32]) ++ Lib.decDigits C) ++ [32]) ++ Lib.decDigits N = X6 at *
  generalize (((((actName 4) ++ [32]) ++ Lib.decDigits B) ++ [32]) ++ Lib.decDigits C) ++ [32] = X5 at *
  generalize ((((actName 4) ++ [32]) ++ Lib.decDigits B) ++ [32]) ++ Lib.decDigits C = X4 at *
  generalize (((actName 4) ++ [32]) ++ Lib.decDigits B) ++ [32] = X3 at *
  generalize ((actName 4) ++ [32]) ++ Lib.decDigits B = X2 at *
  generalize (actName 4) ++ [32] = X1 at *
  replace p0 := Lib.hid p0
  replace p1 := Lib.hid p1
  replace p2 := Lib.hid p2
  replace hfin := Lib.hid hfin
  replace hR := Lib.hid hR
  replace hr := Lib.hid hr
  replace hW0 := Lib.hid hW0
  replace B1 := Lib.hid B1
  go_enter Tryd.func6, Tryd.ntmps6
  go_wp2_with fail
  refine (hR.out _).mono ?_; rintro e w1 ⟨rfl, hb1⟩
  have C1 := B1.out.below hb1 (by simp)
  have hz1 := nx hW0.out (Nat.le_refl _) hb1
  have hl1 := C1.lt
  have c0 := C1.cell 0
  have c1 := C1.cell 1
  have c2 := C1.cell 2
  have c3 := C1.cell 3
  have c4 := C1.cell 4
  have c5 := C1.cell 5
  replace C1 := Lib.hid C1
  replace hz1 := Lib.hid hz1
  clear hb1
  go_wp2_with fail
  refine (p0.out _).mono ?_; rintro e w2 ⟨rfl, hb2⟩
  have hzx := Below.more_ hz1.out (.cells #[.string ⟨#[110, 111, 110, 101]⟩, .string ⟨#[108, 111, 97, 100]⟩, .string ⟨#[115, 116, 111, 114, 101]⟩, .string ⟨#[115, 119, 97, 112]⟩, .string ⟨#[98, 117, 109, 112]⟩, .string ⟨#[109, 97, 107, 101]⟩, .string ⟨#[119, 111, 114, 100, 115]⟩, .string ⟨#[100, 114, 111, 112]⟩, .string ⟨#[108, 111, 99, 107]⟩, .string ⟨#[117, 110, 108, 111, 99, 107]⟩, .string ⟨#[97, 119, 97, 105, 116]⟩] 9)
  have C2 := (C1.out.alloc (.cells #[.string ⟨#[110, 111, 110, 101]⟩, .string ⟨#[108, 111, 97, 100]⟩, .string ⟨#[115, 116, 111, 114, 101]⟩, .string ⟨#[115, 119, 97, 112]⟩, .string ⟨#[98, 117, 109, 112]⟩, .string ⟨#[109, 97, 107, 101]⟩, .string ⟨#[119, 111, 114, 100, 115]⟩, .string ⟨#[100, 114, 111, 112]⟩, .string ⟨#[108, 111, 99, 107]⟩, .string ⟨#[117, 110, 108, 111, 99, 107]⟩, .string ⟨#[97, 119, 97, 105, 116]⟩] 9)).below hb2 (by simp; omega)
  have hz2 := Below.next_ hzx hb2
  clear c0 c1 c2 c3 c4 c5
  have c0 := C2.cell 0
  have c1 := C2.cell 1
  have c2 := C2.cell 2
  have c3 := C2.cell 3
  have c4 := C2.cell 4
  have c5 := C2.cell 5
  replace C2 := Lib.hid C2
  replace hz2 := Lib.hid hz2
  clear hb2
  go_wp2_with fail
  refine (p1.out _).mono ?_; rintro e w3 ⟨rfl, hb3⟩
  have C3 := C2.out.below hb3 C2.out.lt
  have hz3 := Below.next_ hz2.out hb3
  clear c0 c1 c2 c3 c4 c5
  have c0 := C3.cell 0
  have c1 := C3.cell 1
  have c2 := C3.cell 2
  have c3 := C3.cell 3
  have c4 := C3.cell 4
  have c5 := C3.cell 5
  replace C3 := Lib.hid C3
  replace hz3 := Lib.hid hz3
  clear hb3
  go_wp2_with fail
  refine (p2.out _).mono ?_; rintro e w4 ⟨rfl, hb4⟩
  have C4 := C3.out.below hb4 C3.out.lt
  have hz4 := Below.next_ hz3.out hb4
  clear c0 c1 c2 c3 c4 c5
  have c0 := C4.cell 0
  have c1 := C4.cell 1
  have c2 := C4.cell 2
  have c3 := C4.cell 3
  have c4 := C4.cell 4
  have c5 := C4.cell 5
  replace C4 := Lib.hid C4
  replace hz4 := Lib.hid hz4
  clear hb4
  go_wp2_with fail
  go_ret
  exact ⟨by first | rfl | (rw [hfin.out]; rfl), by first | exact hz4.out | (have hzz := hz4.out; (repeat first | exact Below.refl _ _ | assumption | refine Below.drew ?_ | refine below_drewN ?_ _ | refine Below.more_ ?_ _ | refine Below.setCell ?_ (by first | exact Nat.le_refl _ | (simp; done) | (simp; omega)) _))⟩
set_option maxRecDepth 100000 in
set_option maxHeartbeats 2000000 in
theorem rtext_5 (B C O N : Nat) (t : ByteArray) (hB : B < 18446744073709551616) (hC : C ≤ 9223372036854775807) (hO : O < 18446744073709551616) (hN : N < 18446744073709551616) (ht : t.size ≤ 5000) (w : World) (hr : PAct.right ⟨5, B, C, O, N, t⟩ = true) :
    Calls Tryd.prog 6 #[.agg #[.int .i64 5, .int .u64 B, .int .i64 C, .int .u64 O, .int .u64 N, .string t]] w fun e w' => e = .returned (.string (bs (actName 5 ++ 32 :: (Lib.decDigits C ++ 32 :: qprint t.data.toList)))) ∧ Below w.heap.size w w' := by
  have hR : ∀ W, Calls Tryd.prog 18 #[.agg #[.int .i64 5, .int .u64 B, .int .i64 C, .int .u64 O, .int .u64 N, .string t]] W fun e W' => e = .returned (.bool true) ∧ Below W.heap.size W W' := fun W => by
    have h := rright_any ⟨5, B, C, O, N, t⟩ W (show t.size ≤ 9223372036854775807 by omega)
    rw [hr] at h
    exact h
  have nl := name_len 5
  have dB := dec_20 hB
  have dC := dec_20 (n := C) (by omega)
  have dO := dec_20 hO
  have dN := dec_20 hN
  have hwc : IntKind.u64.wrap (C : Int) = (C : Int) := by rw [IntKind.wrap_u64]; omega
  have hql := qprint_len t.data.toList
  rw [size_list_] at hql
  have hW0 : Below w.heap.size w (w.alloc (.cells #[.int .i64 5, .int .u64 B, .int .i64 C, .int .u64 O, .int .u64 N, .string t] 24)) := (Below.refl _ _).alloc (Nat.le_refl _) _
  have B1 := Blk.new w 24 #[.int .i64 5, .int .u64 B, .int .i64 C, .int .u64 O, .int .u64 N, .string t]
  have a0 : ∀ W, (Op.stringOp .add (⟨#[109, 97, 107, 101]⟩) ⟨#[32]⟩).run Tryd.prog W = .ok (.string (bs ((actName 5) ++ [32]))) W := fun W => add_str W (actName 5) [32] (by simp; omega)
  have b0 := fun W => add_str W ((actName 5) ++ [32]) (Lib.decDigits C) (by simp; omega)
  have p0 : ∀ W, Calls Tryd.prog 19 #[.int .u64 C] W fun e w' => e = .returned (.string (bs (Lib.decDigits C))) ∧ Below W.heap.size W w' := fun W => naturalA_any C (by omega) W
  have a1 : ∀ W, (Op.stringOp .add (bs (((actName 5) ++ [32]) ++ Lib.decDigits C)) ⟨#[32]⟩).run Tryd.prog W = .ok (.string (bs ((((actName 5) ++ [32]) ++ Lib.decDigits C) ++ [32]))) W := fun W => add_str W (((actName 5) ++ [32]) ++ Lib.decDigits C) [32] (by simp; omega)
  have b1 := fun W => add_str W ((((actName 5) ++ [32]) ++ Lib.decDigits C) ++ [32]) (qprint t.data.toList) (by simp; omega)
  have p1 : ∀ W, Calls Tryd.prog 20 #[.string t] W fun e w' => e = .returned (.string (bs (qprint t.data.toList))) ∧ Below W.heap.size W w' := fun W => refPrintQ_any t (by omega) W
  have hfin : bs (actName 5 ++ 32 :: (Lib.decDigits C ++ 32 :: qprint t.data.toList)) = bs (((((actName 5) ++ [32]) ++ Lib.decDigits C) ++ [32]) ++ qprint t.data.toList) := by simp
  generalize ((((actName 5) ++ [32]) ++ Lib.decDigits C) ++ [32]) ++ qprint t.data.toList = X4 at *
  generalize (((actName 5) ++ [32]) ++ Lib.decDigits C) ++ [32] = X3 at *
  generalize ((actName 5) ++ [32]) ++ Lib.decDigits C = X2 at *
  generalize (actName 5) ++ [32] = X1 at *
  replace p0 := Lib.hid p0
  replace p1 := Lib.hid p1
  replace hfin := Lib.hid hfin
  replace hR := Lib.hid hR
  replace hr := Lib.hid hr
  replace hW0 := Lib.hid hW0
  replace B1 := Lib.hid B1
  go_enter Tryd.func6, Tryd.ntmps6
  go_wp2_with fail
  refine (hR.out _).mono ?_; rintro e w1 ⟨rfl, hb1⟩
  have C1 := B1.out.below hb1 (by simp)
  have hz1 := nx hW0.out (Nat.le_refl _) hb1
  have hl1 := C1.lt
  have c0 := C1.cell 0
  have c1 := C1.cell 1
  have c2 := C1.cell 2
  have c3 := C1.cell 3
  have c4 := C1.cell 4
  have c5 := C1.cell 5
  replace C1 := Lib.hid C1
  replace hz1 := Lib.hid hz1
  clear hb1
  go_wp2_with fail
  refine (p0.out _).mono ?_; rintro e w2 ⟨rfl, hb2⟩
  have hzx := Below.more_ hz1.out (.cells #[.string ⟨#[110, 111, 110, 101]⟩, .string ⟨#[108, 111, 97, 100]⟩, .string ⟨#[115, 116, 111, 114, 101]⟩, .string ⟨#[115, 119, 97, 112]⟩, .string ⟨#[98, 117, 109, 112]⟩, .string ⟨#[109, 97, 107, 101]⟩, .string ⟨#[119, 111, 114, 100, 115]⟩, .string ⟨#[100, 114, 111, 112]⟩, .string ⟨#[108, 111, 99, 107]⟩, .string ⟨#[117, 110, 108, 111, 99, 107]⟩, .string ⟨#[97, 119, 97, 105, 116]⟩] 9)
  have C2 := (C1.out.alloc (.cells #[.string ⟨#[110, 111, 110, 101]⟩, .string ⟨#[108, 111, 97, 100]⟩, .string ⟨#[115, 116, 111, 114, 101]⟩, .string ⟨#[115, 119, 97, 112]⟩, .string ⟨#[98, 117, 109, 112]⟩, .string ⟨#[109, 97, 107, 101]⟩, .string ⟨#[119, 111, 114, 100, 115]⟩, .string ⟨#[100, 114, 111, 112]⟩, .string ⟨#[108, 111, 99, 107]⟩, .string ⟨#[117, 110, 108, 111, 99, 107]⟩, .string ⟨#[97, 119, 97, 105, 116]⟩] 9)).below hb2 (by simp; omega)
  have hz2 := Below.next_ hzx hb2
  clear c0 c1 c2 c3 c4 c5
  have c0 := C2.cell 0
  have c1 := C2.cell 1
  have c2 := C2.cell 2
  have c3 := C2.cell 3
  have c4 := C2.cell 4
  have c5 := C2.cell 5
  replace C2 := Lib.hid C2
  replace hz2 := Lib.hid hz2
  clear hb2
  go_wp2_with fail
  refine (p1.out _).mono ?_; rintro e w3 ⟨rfl, hb3⟩
  have C3 := C2.out.below hb3 C2.out.lt
  have hz3 := Below.next_ hz2.out hb3
  clear c0 c1 c2 c3 c4 c5
  have c0 := C3.cell 0
  have c1 := C3.cell 1
  have c2 := C3.cell 2
  have c3 := C3.cell 3
  have c4 := C3.cell 4
  have c5 := C3.cell 5
  replace C3 := Lib.hid C3
  replace hz3 := Lib.hid hz3
  clear hb3
  go_wp2_with fail
  go_ret
  exact ⟨by first | rfl | (rw [hfin.out]; rfl), by first | exact hz3.out | (have hzz := hz3.out; (repeat first | exact Below.refl _ _ | assumption | refine Below.drew ?_ | refine below_drewN ?_ _ | refine Below.more_ ?_ _ | refine Below.setCell ?_ (by first | exact Nat.le_refl _ | (simp; done) | (simp; omega)) _))⟩
set_option maxRecDepth 100000 in
set_option maxHeartbeats 2000000 in
theorem rtext_6 (B C O N : Nat) (t : ByteArray) (hB : B < 18446744073709551616) (hC : C ≤ 9223372036854775807) (hO : O < 18446744073709551616) (hN : N < 18446744073709551616) (ht : t.size ≤ 5000) (w : World) (hr : PAct.right ⟨6, B, C, O, N, ⟨#[]⟩⟩ = true) :
    Calls Tryd.prog 6 #[.agg #[.int .i64 6, .int .u64 B, .int .i64 C, .int .u64 O, .int .u64 N, .string ⟨#[]⟩]] w fun e w' => e = .returned (.string (bs (actName 6 ++ 32 :: Lib.decDigits B))) ∧ Below w.heap.size w w' := by
  have hR : ∀ W, Calls Tryd.prog 18 #[.agg #[.int .i64 6, .int .u64 B, .int .i64 C, .int .u64 O, .int .u64 N, .string ⟨#[]⟩]] W fun e W' => e = .returned (.bool true) ∧ Below W.heap.size W W' := fun W => by
    have h := rright_any ⟨6, B, C, O, N, ⟨#[]⟩⟩ W (Nat.zero_le _)
    rw [hr] at h
    exact h
  have nl := name_len 6
  have dB := dec_20 hB
  have dC := dec_20 (n := C) (by omega)
  have dO := dec_20 hO
  have dN := dec_20 hN
  have hwc : IntKind.u64.wrap (C : Int) = (C : Int) := by rw [IntKind.wrap_u64]; omega
  have hql := qprint_len t.data.toList
  rw [size_list_] at hql
  have hW0 : Below w.heap.size w (w.alloc (.cells #[.int .i64 6, .int .u64 B, .int .i64 C, .int .u64 O, .int .u64 N, .string ⟨#[]⟩] 24)) := (Below.refl _ _).alloc (Nat.le_refl _) _
  have B1 := Blk.new w 24 #[.int .i64 6, .int .u64 B, .int .i64 C, .int .u64 O, .int .u64 N, .string ⟨#[]⟩]
  have a0 : ∀ W, (Op.stringOp .add (⟨#[119, 111, 114, 100, 115]⟩) ⟨#[32]⟩).run Tryd.prog W = .ok (.string (bs ((actName 6) ++ [32]))) W := fun W => add_str W (actName 6) [32] (by simp; omega)
  have b0 := fun W => add_str W ((actName 6) ++ [32]) (Lib.decDigits B) (by simp; omega)
  have p0 : ∀ W, Calls Tryd.prog 19 #[.int .u64 B] W fun e w' => e = .returned (.string (bs (Lib.decDigits B))) ∧ Below W.heap.size W w' := fun W => naturalA_any B hB W
  have hfin : bs (actName 6 ++ 32 :: Lib.decDigits B) = bs (((actName 6) ++ [32]) ++ Lib.decDigits B) := by simp
  generalize ((actName 6) ++ [32]) ++ Lib.decDigits B = X2 at *
  generalize (actName 6) ++ [32] = X1 at *
  replace p0 := Lib.hid p0
  replace hfin := Lib.hid hfin
  replace hR := Lib.hid hR
  replace hr := Lib.hid hr
  replace hW0 := Lib.hid hW0
  replace B1 := Lib.hid B1
  go_enter Tryd.func6, Tryd.ntmps6
  go_wp2_with fail
  refine (hR.out _).mono ?_; rintro e w1 ⟨rfl, hb1⟩
  have C1 := B1.out.below hb1 (by simp)
  have hz1 := nx hW0.out (Nat.le_refl _) hb1
  have hl1 := C1.lt
  have c0 := C1.cell 0
  have c1 := C1.cell 1
  have c2 := C1.cell 2
  have c3 := C1.cell 3
  have c4 := C1.cell 4
  have c5 := C1.cell 5
  replace C1 := Lib.hid C1
  replace hz1 := Lib.hid hz1
  clear hb1
  go_wp2_with fail
  refine (p0.out _).mono ?_; rintro e w2 ⟨rfl, hb2⟩
  have hzx := Below.more_ hz1.out (.cells #[.string ⟨#[110, 111, 110, 101]⟩, .string ⟨#[108, 111, 97, 100]⟩, .string ⟨#[115, 116, 111, 114, 101]⟩, .string ⟨#[115, 119, 97, 112]⟩, .string ⟨#[98, 117, 109, 112]⟩, .string ⟨#[109, 97, 107, 101]⟩, .string ⟨#[119, 111, 114, 100, 115]⟩, .string ⟨#[100, 114, 111, 112]⟩, .string ⟨#[108, 111, 99, 107]⟩, .string ⟨#[117, 110, 108, 111, 99, 107]⟩, .string ⟨#[97, 119, 97, 105, 116]⟩] 9)
  have C2 := (C1.out.alloc (.cells #[.string ⟨#[110, 111, 110, 101]⟩, .string ⟨#[108, 111, 97, 100]⟩, .string ⟨#[115, 116, 111, 114, 101]⟩, .string ⟨#[115, 119, 97, 112]⟩, .string ⟨#[98, 117, 109, 112]⟩, .string ⟨#[109, 97, 107, 101]⟩, .string ⟨#[119, 111, 114, 100, 115]⟩, .string ⟨#[100, 114, 111, 112]⟩, .string ⟨#[108, 111, 99, 107]⟩, .string ⟨#[117, 110, 108, 111, 99, 107]⟩, .string ⟨#[97, 119, 97, 105, 116]⟩] 9)).below hb2 (by simp; omega)
  have hz2 := Below.next_ hzx hb2
  clear c0 c1 c2 c3 c4 c5
  have c0 := C2.cell 0
  have c1 := C2.cell 1
  have c2 := C2.cell 2
  have c3 := C2.cell 3
  have c4 := C2.cell 4
  have c5 := C2.cell 5
  replace C2 := Lib.hid C2
  replace hz2 := Lib.hid hz2
  clear hb2
  go_wp2_with fail
  go_ret
  exact ⟨by first | rfl | (rw [hfin.out]; rfl), by first | exact hz2.out | (have hzz := hz2.out; (repeat first | exact Below.refl _ _ | assumption | refine Below.drew ?_ | refine below_drewN ?_ _ | refine Below.more_ ?_ _ | refine Below.setCell ?_ (by first | exact Nat.le_refl _ | (simp; done) | (simp; omega)) _))⟩
set_option maxRecDepth 100000 in
set_option maxHeartbeats 2000000 in
theorem rtext_7 (B C O N : Nat) (t : ByteArray) (hB : B < 18446744073709551616) (hC : C ≤ 9223372036854775807) (hO : O < 18446744073709551616) (hN : N < 18446744073709551616) (ht : t.size ≤ 5000) (w : World) (hr : PAct.right ⟨7, B, C, O, N, ⟨#[]⟩⟩ = true) :
    Calls Tryd.prog 6 #[.agg #[.int .i64 7, .int .u64 B, .int .i64 C, .int .u64 O, .int .u64 N, .string ⟨#[]⟩]] w fun e w' => e = .returned (.string (bs (actName 7 ++ 32 :: Lib.decDigits B))) ∧ Below w.heap.size w w' := by
  have hR : ∀ W, Calls Tryd.prog 18 #[.agg #[.int .i64 7, .int .u64 B, .int .i64 C, .int .u64 O, .int .u64 N, .string ⟨#[]⟩]] W fun e W' => e = .returned (.bool true) ∧ Below W.heap.size W W' := fun W => by
    have h := rright_any ⟨7, B, C, O, N, ⟨#[]⟩⟩ W (Nat.zero_le _)
    rw [hr] at h
    exact h
  have nl := name_len 7
  have dB := dec_20 hB
  have dC := dec_20 (n := C) (by omega)
  have dO := dec_20 hO
  have dN := dec_20 hN
  have hwc : IntKind.u64.wrap (C : Int) = (C : Int) := by rw [IntKind.wrap_u64]; omega
  have hql := qprint_len t.data.toList
  rw [size_list_] at hql
  have hW0 : Below w.heap.size w (w.alloc (.cells #[.int .i64 7, .int .u64 B, .int .i64 C, .int .u64 O, .int .u64 N, .string ⟨#[]⟩] 24)) := (Below.refl _ _).alloc (Nat.le_refl _) _
  have B1 := Blk.new w 24 #[.int .i64 7, .int .u64 B, .int .i64 C, .int .u64 O, .int .u64 N, .string ⟨#[]⟩]
  have a0 : ∀ W, (Op.stringOp .add (⟨#[100, 114, 111, 112]⟩) ⟨#[32]⟩).run Tryd.prog W = .ok (.string (bs ((actName 7) ++ [32]))) W := fun W => add_str W (actName 7) [32] (by simp; omega)
  have b0 := fun W => add_str W ((actName 7) ++ [32]) (Lib.decDigits B) (by simp; omega)
  have p0 : ∀ W, Calls Tryd.prog 19 #[.int .u64 B] W fun e w' => e = .returned (.string (bs (Lib.decDigits B))) ∧ Below W.heap.size W w' := fun W => naturalA_any B hB W
  have hfin : bs (actName 7 ++ 32 :: Lib.decDigits B) = bs (((actName 7) ++ [32]) ++ Lib.decDigits B) := by simp
  generalize ((actName 7) ++ [32]) ++ Lib.decDigits B = X2 at *
  generalize (actName 7) ++ [32] = X1 at *
  replace p0 := Lib.hid p0
  replace hfin := Lib.hid hfin
  replace hR := Lib.hid hR
  replace hr := Lib.hid hr
  replace hW0 := Lib.hid hW0
  replace B1 := Lib.hid B1
  go_enter Tryd.func6, Tryd.ntmps6
  go_wp2_with fail
  refine (hR.out _).mono ?_; rintro e w1 ⟨rfl, hb1⟩
  have C1 := B1.out.below hb1 (by simp)
  have hz1 := nx hW0.out (Nat.le_refl _) hb1
  have hl1 := C1.lt
  have c0 := C1.cell 0
  have c1 := C1.cell 1
  have c2 := C1.cell 2
  have c3 := C1.cell 3
  have c4 := C1.cell 4
  have c5 := C1.cell 5
  replace C1 := Lib.hid C1
  replace hz1 := Lib.hid hz1
  clear hb1
  go_wp2_with fail
  refine (p0.out _).mono ?_; rintro e w2 ⟨rfl, hb2⟩
  have hzx := Below.more_ hz1.out (.cells #[.string ⟨#[110, 111, 110, 101]⟩, .string ⟨#[108, 111, 97, 100]⟩, .string ⟨#[115, 116, 111, 114, 101]⟩, .string ⟨#[115, 119, 97, 112]⟩, .string ⟨#[98, 117, 109, 112]⟩, .string ⟨#[109, 97, 107, 101]⟩, .string ⟨#[119, 111, 114, 100, 115]⟩, .string ⟨#[100, 114, 111, 112]⟩, .string ⟨#[108, 111, 99, 107]⟩, .string ⟨#[117, 110, 108, 111, 99, 107]⟩, .string ⟨#[97, 119, 97, 105, 116]⟩] 9)
  have C2 := (C1.out.alloc (.cells #[.string ⟨#[110, 111, 110, 101]⟩, .string ⟨#[108, 111, 97, 100]⟩, .string ⟨#[115, 116, 111, 114, 101]⟩, .string ⟨#[115, 119, 97, 112]⟩, .string ⟨#[98, 117, 109, 112]⟩, .string ⟨#[109, 97, 107, 101]⟩, .string ⟨#[119, 111, 114, 100, 115]⟩, .string ⟨#[100, 114, 111, 112]⟩, .string ⟨#[108, 111, 99, 107]⟩, .string ⟨#[117, 110, 108, 111, 99, 107]⟩, .string ⟨#[97, 119, 97, 105, 116]⟩] 9)).below hb2 (by simp; omega)
  have hz2 := Below.next_ hzx hb2
  clear c0 c1 c2 c3 c4 c5
  have c0 := C2.cell 0
  have c1 := C2.cell 1
  have c2 := C2.cell 2
  have c3 := C2.cell 3
  have c4 := C2.cell 4
  have c5 := C2.cell 5
  replace C2 := Lib.hid C2
  replace hz2 := Lib.hid hz2
  clear hb2
  go_wp2_with fail
  go_ret
  exact ⟨by first | rfl | (rw [hfin.out]; rfl), by first | exact hz2.out | (have hzz := hz2.out; (repeat first | exact Below.refl _ _ | assumption | refine Below.drew ?_ | refine below_drewN ?_ _ | refine Below.more_ ?_ _ | refine Below.setCell ?_ (by first | exact Nat.le_refl _ | (simp; done) | (simp; omega)) _))⟩
set_option maxRecDepth 100000 in
set_option maxHeartbeats 2000000 in
theorem rtext_8 (B C O N : Nat) (t : ByteArray) (hB : B < 18446744073709551616) (hC : C ≤ 9223372036854775807) (hO : O < 18446744073709551616) (hN : N < 18446744073709551616) (ht : t.size ≤ 5000) (w : World) (hr : PAct.right ⟨8, B, C, O, N, ⟨#[]⟩⟩ = true) :
    Calls Tryd.prog 6 #[.agg #[.int .i64 8, .int .u64 B, .int .i64 C, .int .u64 O, .int .u64 N, .string ⟨#[]⟩]] w fun e w' => e = .returned (.string (bs (actName 8))) ∧ Below w.heap.size w w' := by
  have hR : ∀ W, Calls Tryd.prog 18 #[.agg #[.int .i64 8, .int .u64 B, .int .i64 C, .int .u64 O, .int .u64 N, .string ⟨#[]⟩]] W fun e W' => e = .returned (.bool true) ∧ Below W.heap.size W W' := fun W => by
    have h := rright_any ⟨8, B, C, O, N, ⟨#[]⟩⟩ W (Nat.zero_le _)
    rw [hr] at h
    exact h
  have nl := name_len 8
  have dB := dec_20 hB
  have dC := dec_20 (n := C) (by omega)
  have dO := dec_20 hO
  have dN := dec_20 hN
  have hwc : IntKind.u64.wrap (C : Int) = (C : Int) := by rw [IntKind.wrap_u64]; omega
  have hql := qprint_len t.data.toList
  rw [size_list_] at hql
  have hW0 : Below w.heap.size w (w.alloc (.cells #[.int .i64 8, .int .u64 B, .int .i64 C, .int .u64 O, .int .u64 N, .string ⟨#[]⟩] 24)) := (Below.refl _ _).alloc (Nat.le_refl _) _
  have B1 := Blk.new w 24 #[.int .i64 8, .int .u64 B, .int .i64 C, .int .u64 O, .int .u64 N, .string ⟨#[]⟩]
  have hfin : bs (actName 8) = bs (actName 8) := by simp
  replace hfin := Lib.hid hfin
  replace hR := Lib.hid hR
  replace hr := Lib.hid hr
  replace hW0 := Lib.hid hW0
  replace B1 := Lib.hid B1
  go_enter Tryd.func6, Tryd.ntmps6
  go_wp2_with fail
  refine (hR.out _).mono ?_; rintro e w1 ⟨rfl, hb1⟩
  have C1 := B1.out.below hb1 (by simp)
  have hz1 := nx hW0.out (Nat.le_refl _) hb1
  have hl1 := C1.lt
  have c0 := C1.cell 0
  have c1 := C1.cell 1
  have c2 := C1.cell 2
  have c3 := C1.cell 3
  have c4 := C1.cell 4
  have c5 := C1.cell 5
  replace C1 := Lib.hid C1
  replace hz1 := Lib.hid hz1
  clear hb1
  go_wp2_with fail
  go_ret
  exact ⟨by first | rfl | (rw [hfin.out]; rfl), by first | exact hz1.out | (have hzz := hz1.out; (repeat first | exact Below.refl _ _ | assumption | refine Below.drew ?_ | refine below_drewN ?_ _ | refine Below.more_ ?_ _ | refine Below.setCell ?_ (by first | exact Nat.le_refl _ | (simp; done) | (simp; omega)) _))⟩
set_option maxRecDepth 100000 in
set_option maxHeartbeats 2000000 in
theorem rtext_9 (B C O N : Nat) (t : ByteArray) (hB : B < 18446744073709551616) (hC : C ≤ 9223372036854775807) (hO : O < 18446744073709551616) (hN : N < 18446744073709551616) (ht : t.size ≤ 5000) (w : World) (hr : PAct.right ⟨9, B, C, O, N, ⟨#[]⟩⟩ = true) :
    Calls Tryd.prog 6 #[.agg #[.int .i64 9, .int .u64 B, .int .i64 C, .int .u64 O, .int .u64 N, .string ⟨#[]⟩]] w fun e w' => e = .returned (.string (bs (actName 9))) ∧ Below w.heap.size w w' := by
  have hR : ∀ W, Calls Tryd.prog 18 #[.agg #[.int .i64 9, .int .u64 B, .int .i64 C, .int .u64 O, .int .u64 N, .string ⟨#[]⟩]] W fun e W' => e = .returned (.bool true) ∧ Below W.heap.size W W' := fun W => by
    have h := rright_any ⟨9, B, C, O, N, ⟨#[]⟩⟩ W (Nat.zero_le _)
    rw [hr] at h
    exact h
  have nl := name_len 9
  have dB := dec_20 hB
  have dC := dec_20 (n := C) (by omega)
  have dO := dec_20 hO
  have dN := dec_20 hN
  have hwc : IntKind.u64.wrap (C : Int) = (C : Int) := by rw [IntKind.wrap_u64]; omega
  have hql := qprint_len t.data.toList
  rw [size_list_] at hql
  have hW0 : Below w.heap.size w (w.alloc (.cells #[.int .i64 9, .int .u64 B, .int .i64 C, .int .u64 O, .int .u64 N, .string ⟨#[]⟩] 24)) := (Below.refl _ _).alloc (Nat.le_refl _) _
  have B1 := Blk.new w 24 #[.int .i64 9, .int .u64 B, .int .i64 C, .int .u64 O, .int .u64 N, .string ⟨#[]⟩]
  have hfin : bs (actName 9) = bs (actName 9) := by simp
  replace hfin := Lib.hid hfin
  replace hR := Lib.hid hR
  replace hr := Lib.hid hr
  replace hW0 := Lib.hid hW0
  replace B1 := Lib.hid B1
  go_enter Tryd.func6, Tryd.ntmps6
  go_wp2_with fail
  refine (hR.out _).mono ?_; rintro e w1 ⟨rfl, hb1⟩
  have C1 := B1.out.below hb1 (by simp)
  have hz1 := nx hW0.out (Nat.le_refl _) hb1
  have hl1 := C1.lt
  have c0 := C1.cell 0
  have c1 := C1.cell 1
  have c2 := C1.cell 2
  have c3 := C1.cell 3
  have c4 := C1.cell 4
  have c5 := C1.cell 5
  replace C1 := Lib.hid C1
  replace hz1 := Lib.hid hz1
  clear hb1
  go_wp2_with fail
  go_ret
  exact ⟨by first | rfl | (rw [hfin.out]; rfl), by first | exact hz1.out | (have hzz := hz1.out; (repeat first | exact Below.refl _ _ | assumption | refine Below.drew ?_ | refine below_drewN ?_ _ | refine Below.more_ ?_ _ | refine Below.setCell ?_ (by first | exact Nat.le_refl _ | (simp; done) | (simp; omega)) _))⟩
set_option maxRecDepth 100000 in
set_option maxHeartbeats 2000000 in
theorem rtext_10 (B C O N : Nat) (t : ByteArray) (hB : B < 18446744073709551616) (hC : C ≤ 9223372036854775807) (hO : O < 18446744073709551616) (hN : N < 18446744073709551616) (ht : t.size ≤ 5000) (w : World) (hr : PAct.right ⟨10, B, C, O, N, ⟨#[]⟩⟩ = true) :
    Calls Tryd.prog 6 #[.agg #[.int .i64 10, .int .u64 B, .int .i64 C, .int .u64 O, .int .u64 N, .string ⟨#[]⟩]] w fun e w' => e = .returned (.string (bs (actName 10 ++ 32 :: (Lib.decDigits B ++ 32 :: Lib.decDigits C)))) ∧ Below w.heap.size w w' := by
  have hR : ∀ W, Calls Tryd.prog 18 #[.agg #[.int .i64 10, .int .u64 B, .int .i64 C, .int .u64 O, .int .u64 N, .string ⟨#[]⟩]] W fun e W' => e = .returned (.bool true) ∧ Below W.heap.size W W' := fun W => by
    have h := rright_any ⟨10, B, C, O, N, ⟨#[]⟩⟩ W (Nat.zero_le _)
    rw [hr] at h
    exact h
  have nl := name_len 10
  have dB := dec_20 hB
  have dC := dec_20 (n := C) (by omega)
  have dO := dec_20 hO
  have dN := dec_20 hN
  have hwc : IntKind.u64.wrap (C : Int) = (C : Int) := by rw [IntKind.wrap_u64]; omega
  have hql := qprint_len t.data.toList
  rw [size_list_] at hql
  have hW0 : Below w.heap.size w (w.alloc (.cells #[.int .i64 10, .int .u64 B, .int .i64 C, .int .u64 O, .int .u64 N, .string ⟨#[]⟩] 24)) := (Below.refl _ _).alloc (Nat.le_refl _) _
  have B1 := Blk.new w 24 #[.int .i64 10, .int .u64 B, .int .i64 C, .int .u64 O, .int .u64 N, .string ⟨#[]⟩]
  have a0 : ∀ W, (Op.stringOp .add (⟨#[97, 119, 97, 105, 116]⟩) ⟨#[32]⟩).run Tryd.prog W = .ok (.string (bs ((actName 10) ++ [32]))) W := fun W => add_str W (actName 10) [32] (by simp; omega)
  have b0 := fun W => add_str W ((actName 10) ++ [32]) (Lib.decDigits B) (by simp; omega)
  have p0 : ∀ W, Calls Tryd.prog 19 #[.int .u64 B] W fun e w' => e = .returned (.string (bs (Lib.decDigits B))) ∧ Below W.heap.size W w' := fun W => naturalA_any B hB W
  have a1 : ∀ W, (Op.stringOp .add (bs (((actName 10) ++ [32]) ++ Lib.decDigits B)) ⟨#[32]⟩).run Tryd.prog W = .ok (.string (bs ((((actName 10) ++ [32]) ++ Lib.decDigits B) ++ [32]))) W := fun W => add_str W (((actName 10) ++ [32]) ++ Lib.decDigits B) [32] (by simp; omega)
  have b1 := fun W => add_str W ((((actName 10) ++ [32]) ++ Lib.decDigits B) ++ [32]) (Lib.decDigits C) (by simp; omega)
  have p1 : ∀ W, Calls Tryd.prog 19 #[.int .u64 C] W fun e w' => e = .returned (.string (bs (Lib.decDigits C))) ∧ Below W.heap.size W w' := fun W => naturalA_any C (by omega) W
  have hfin : bs (actName 10 ++ 32 :: (Lib.decDigits B ++ 32 :: Lib.decDigits C)) = bs (((((actName 10) ++ [32]) ++ Lib.decDigits B) ++ [32]) ++ Lib.decDigits C) := by simp
  generalize ((((actName 10) ++ [32]) ++ Lib.decDigits B) ++ [32]) ++ Lib.decDigits C = X4 at *
  generalize (((actName 10) ++ [32]) ++ Lib.decDigits B) ++ [32] = X3 at *
  generalize ((actName 10) ++ [32]) ++ Lib.decDigits B = X2 at *
  generalize (actName 10) ++ [32] = X1 at *
  replace p0 := Lib.hid p0
  replace p1 := Lib.hid p1
  replace hfin := Lib.hid hfin
  replace hR := Lib.hid hR
  replace hr := Lib.hid hr
  replace hW0 := Lib.hid hW0
  replace B1 := Lib.hid B1
  go_enter Tryd.func6, Tryd.ntmps6
  go_wp2_with fail
  refine (hR.out _).mono ?_; rintro e w1 ⟨rfl, hb1⟩
  have C1 := B1.out.below hb1 (by simp)
  have hz1 := nx hW0.out (Nat.le_refl _) hb1
  have hl1 := C1.lt
  have c0 := C1.cell 0
  have c1 := C1.cell 1
  have c2 := C1.cell 2
  have c3 := C1.cell 3
  have c4 := C1.cell 4
  have c5 := C1.cell 5
  replace C1 := Lib.hid C1
  replace hz1 := Lib.hid hz1
  clear hb1
  go_wp2_with fail
  refine (p0.out _).mono ?_; rintro e w2 ⟨rfl, hb2⟩
  have hzx := Below.more_ hz1.out (.cells #[.string ⟨#[110, 111, 110, 101]⟩, .string ⟨#[108, 111, 97, 100]⟩, .string ⟨#[115, 116, 111, 114, 101]⟩, .string ⟨#[115, 119, 97, 112]⟩, .string ⟨#[98, 117, 109, 112]⟩, .string ⟨#[109, 97, 107, 101]⟩, .string ⟨#[119, 111, 114, 100, 115]⟩, .string ⟨#[100, 114, 111, 112]⟩, .string ⟨#[108, 111, 99, 107]⟩, .string ⟨#[117, 110, 108, 111, 99, 107]⟩, .string ⟨#[97, 119, 97, 105, 116]⟩] 9)
  have C2 := (C1.out.alloc (.cells #[.string ⟨#[110, 111, 110, 101]⟩, .string ⟨#[108, 111, 97, 100]⟩, .string ⟨#[115, 116, 111, 114, 101]⟩, .string ⟨#[115, 119, 97, 112]⟩, .string ⟨#[98, 117, 109, 112]⟩, .string ⟨#[109, 97, 107, 101]⟩, .string ⟨#[119, 111, 114, 100, 115]⟩, .string ⟨#[100, 114, 111, 112]⟩, .string ⟨#[108, 111, 99, 107]⟩, .string ⟨#[117, 110, 108, 111, 99, 107]⟩, .string ⟨#[97, 119, 97, 105, 116]⟩] 9)).below hb2 (by simp; omega)
  have hz2 := Below.next_ hzx hb2
  clear c0 c1 c2 c3 c4 c5
  have c0 := C2.cell 0
  have c1 := C2.cell 1
  have c2 := C2.cell 2
  have c3 := C2.cell 3
  have c4 := C2.cell 4
  have c5 := C2.cell 5
  replace C2 := Lib.hid C2
  replace hz2 := Lib.hid hz2
  clear hb2
  go_wp2_with fail
  refine (p1.out _).mono ?_; rintro e w3 ⟨rfl, hb3⟩
  have C3 := C2.out.below hb3 C2.out.lt
  have hz3 := Below.next_ hz2.out hb3
  clear c0 c1 c2 c3 c4 c5
  have c0 := C3.cell 0
  have c1 := C3.cell 1
  have c2 := C3.cell 2
  have c3 := C3.cell 3
  have c4 := C3.cell 4
  have c5 := C3.cell 5
  replace C3 := Lib.hid C3
  replace hz3 := Lib.hid hz3
  clear hb3
  go_wp2_with fail
  go_ret
  exact ⟨by first | rfl | (rw [hfin.out]; rfl), by first | exact hz3.out | (have hzz := hz3.out; (repeat first | exact Below.refl _ _ | assumption | refine Below.drew ?_ | refine below_drewN ?_ _ | refine Below.more_ ?_ _ | refine Below.setCell ?_ (by first | exact Nat.le_refl _ | (simp; done) | (simp; omega)) _))⟩
end Go.Proofs.YtmifgjkikbgmiaaDoor
