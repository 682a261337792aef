/-
  act.Text, kind by kind (layer 18), where the table of powers lies. No condition. (Printed by tools/actx.py.)
-/
import Derived.Test.YtmifgjkikbgmiaaDoorActX
import Derived.Test.YtmifgjkikbgmiaaDoorLexH
import Derived.Deep.Cut
namespace Go.Proofs.YtmifgjkikbgmiaaDoor
set_option linter.unusedVariables false
open Go.ChangeShapes Go.WideShapes Go.ChangeAt Go.RowKit
open Go.ChangeMaps (setBlock)

def makeText (C : Nat) (l : List UInt8) : List UInt8 := (((actName 5 ++ [32]) ++ Lib.decDigits C) ++ [32]) ++ qprint l
theorem name_len (k : Nat) : (actName k).length ≤ 6 := by
  unfold actName
  split <;> decide
set_option maxRecDepth 100000 in
set_option maxHeartbeats 2000000 in
theorem text_0 (B C O N : Nat) (t : ByteArray) (hB : B < 18446744073709551616) (hC : C ≤ 9223372036854775807) (hO : O < 18446744073709551616) (hN : N < 18446744073709551616) (ht : t.size ≤ 5000) (w : World) (htab : PTb w) (hr : PAct.right ⟨0, B, C, O, N, ⟨#[]⟩⟩ = true) :
    Calls Tryd.prog 5 #[.agg #[.int .i64 0, .int .u64 B, .int .i64 C, .int .u64 O, .int .u64 N, .string ⟨#[]⟩]] w fun e w' => e = .returned (.string (bs ((actName 0)))) ∧ Below w.heap.size w w' := by
  have hR : ∀ W, Calls Tryd.prog 7 #[.agg #[.int .i64 0, .int .u64 B, .int .i64 C, .int .u64 O, .int .u64 N, .string ⟨#[]⟩]] W fun e W' => e = .returned (.bool true) ∧ Below W.heap.size W W' := fun W => by
    have h := right_any ⟨0, B, C, O, N, ⟨#[]⟩⟩ W (Nat.zero_le _)
    rw [hr] at h
    exact h
  have hnm : ∀ W, Calls Tryd.prog 13 #[.int .i64 0] W fun e w' => e = .returned (.string (bs (actName 0))) ∧ Below W.heap.size W w' := fun W => actName_any 0 (by decide) W
  have nl := name_len 0
  have dB := dec_20 hB
  have dC := dec_20 (n := C) (by omega)
  have dO := dec_20 hO
  have dN := dec_20 hN
  have hwc : IntKind.u64.wrap (C : Int) = (C : Int) := by rw [IntKind.wrap_u64]; omega
  have hW0 : Below w.heap.size w (w.alloc (.cells #[.int .i64 0, .int .u64 B, .int .i64 C, .int .u64 O, .int .u64 N, .string ⟨#[]⟩] 24)) := (Below.refl _ _).alloc (Nat.le_refl _) _
  have B1 := Blk.new w 24 #[.int .i64 0, .int .u64 B, .int .i64 C, .int .u64 O, .int .u64 N, .string ⟨#[]⟩]
  have hT := fun W (h : Below w.heap.size w W) => htab.below h
  replace hR := Lib.hid hR
  replace hnm := Lib.hid hnm
  replace hW0 := Lib.hid hW0
  replace B1 := Lib.hid B1
  replace hT := Lib.hid hT
  replace hr := Lib.hid hr
  clear htab
  go_enter Tryd.func5, Tryd.ntmps5
  go_wp2_with fail
  refine (hR.out _).mono ?_; rintro e w1 ⟨rfl, hb1⟩
  have C1 := B1.out.below hb1 (by simp)
  have hz1 := nx hW0.out (Nat.le_refl _) hb1
  have c0 := C1.cell 0
  replace C1 := Lib.hid C1
  replace hz1 := Lib.hid hz1
  clear hb1
  go_wp2_with fail
  refine (hnm.out _).mono ?_; rintro e w2 ⟨rfl, hb2⟩
  have C2 := (C1.out.below hb2 C1.out.lt).alloc (.cells #[.string (bs (actName 0))] 9)
  have D2 := Blk.new w2 9 #[.string (bs (actName 0))]
  have hz2 := Below.more_ (Below.next_ hz1.out hb2) (.cells #[.string (bs (actName 0))] 9)
  have hs2 := (Below.next_ hz1.out hb2).size
  have hl2 := C1.out.lt
  have hs12 := hb2.size
  clear hb2 c0
  have c0 := C2.cell 0
  have c1 := C2.cell 1
  have c2 := C2.cell 2
  have c3 := C2.cell 3
  have c4 := C2.cell 4
  have c5 := C2.cell 5
  have hD := D2.cell 0
  replace C2 := Lib.hid C2
  replace D2 := Lib.hid D2
  replace hz2 := Lib.hid hz2
  go_wp2_with fail
  go_ret
  exact ⟨rfl, hz2.out⟩
set_option maxRecDepth 100000 in
set_option maxHeartbeats 2000000 in
theorem text_1 (B C O N : Nat) (t : ByteArray) (hB : B < 18446744073709551616) (hC : C ≤ 9223372036854775807) (hO : O < 18446744073709551616) (hN : N < 18446744073709551616) (ht : t.size ≤ 5000) (w : World) (htab : PTb w) (hr : PAct.right ⟨1, B, C, O, N, ⟨#[]⟩⟩ = true) :
    Calls Tryd.prog 5 #[.agg #[.int .i64 1, .int .u64 B, .int .i64 C, .int .u64 O, .int .u64 N, .string ⟨#[]⟩]] w fun e w' => e = .returned (.string (bs (actName 1 ++ 32 :: (Lib.decDigits B ++ 32 :: Lib.decDigits C)))) ∧ Below w.heap.size w w' := by
  have hR : ∀ W, Calls Tryd.prog 7 #[.agg #[.int .i64 1, .int .u64 B, .int .i64 C, .int .u64 O, .int .u64 N, .string ⟨#[]⟩]] W fun e W' => e = .returned (.bool true) ∧ Below W.heap.size W W' := fun W => by
    have h := right_any ⟨1, B, C, O, N, ⟨#[]⟩⟩ W (Nat.zero_le _)
    rw [hr] at h
    exact h
  have hnm : ∀ W, Calls Tryd.prog 13 #[.int .i64 1] W fun e w' => e = .returned (.string (bs (actName 1))) ∧ Below W.heap.size W w' := fun W => actName_any 1 (by decide) W
  have nl := name_len 1
  have dB := dec_20 hB
  have dC := dec_20 (n := C) (by omega)
  have dO := dec_20 hO
  have dN := dec_20 hN
  have hwc : IntKind.u64.wrap (C : Int) = (C : Int) := by rw [IntKind.wrap_u64]; omega
  have hW0 : Below w.heap.size w (w.alloc (.cells #[.int .i64 1, .int .u64 B, .int .i64 C, .int .u64 O, .int .u64 N, .string ⟨#[]⟩] 24)) := (Below.refl _ _).alloc (Nat.le_refl _) _
  have B1 := Blk.new w 24 #[.int .i64 1, .int .u64 B, .int .i64 C, .int .u64 O, .int .u64 N, .string ⟨#[]⟩]
  have hT := fun W (h : Below w.heap.size w W) => htab.below h
  replace hR := Lib.hid hR
  replace hnm := Lib.hid hnm
  replace hW0 := Lib.hid hW0
  replace B1 := Lib.hid B1
  replace hT := Lib.hid hT
  replace hr := Lib.hid hr
  clear htab
  go_enter Tryd.func5, Tryd.ntmps5
  go_wp2_with fail
  refine (hR.out _).mono ?_; rintro e w1 ⟨rfl, hb1⟩
  have C1 := B1.out.below hb1 (by simp)
  have hz1 := nx hW0.out (Nat.le_refl _) hb1
  have c0 := C1.cell 0
  replace C1 := Lib.hid C1
  replace hz1 := Lib.hid hz1
  clear hb1
  go_wp2_with fail
  refine (hnm.out _).mono ?_; rintro e w2 ⟨rfl, hb2⟩
  have C2 := (C1.out.below hb2 C1.out.lt).alloc (.cells #[.string (bs (actName 1))] 9)
  have D2 := Blk.new w2 9 #[.string (bs (actName 1))]
  have hz2 := Below.more_ (Below.next_ hz1.out hb2) (.cells #[.string (bs (actName 1))] 9)
  have hs2 := (Below.next_ hz1.out hb2).size
  have hl2 := C1.out.lt
  have hs12 := hb2.size
  clear hb2 c0
  have c0 := C2.cell 0
  have c1 := C2.cell 1
  have c2 := C2.cell 2
  have c3 := C2.cell 3
  have c4 := C2.cell 4
  have c5 := C2.cell 5
  have hD := D2.cell 0
  replace C2 := Lib.hid C2
  replace D2 := Lib.hid D2
  replace hz2 := Lib.hid hz2
  go_wp2_with fail
  refine (putA_any _ (actName 1) B hB (by first | omega | (simp; omega)) _ (hT.out _ hz2.out) D2.out).mono ?_; rintro e w3 ⟨rfl, D3, K3⟩
  have C3 := C2.out.keep (K3.block _ C2.out.lt (by omega))
  have hz3 := hz2.out.trans (K3.below (fun i hi => by omega) hz2.out.size)
  clear K3 hD c0 c1 c2 c3 c4 c5
  have c0 := C3.cell 0
  have c1 := C3.cell 1
  have c2 := C3.cell 2
  have c3 := C3.cell 3
  have c4 := C3.cell 4
  have c5 := C3.cell 5
  have hD := D3.cell 0
  replace C3 := Lib.hid C3
  replace D3 := Lib.hid D3
  replace hz3 := Lib.hid hz3
  go_wp2_with fail
  refine (putA_any _ ((actName 1) ++ 32 :: Lib.decDigits B) C (by omega) (by first | omega | (simp; omega)) _ (hT.out _ hz3.out) D3.out).mono ?_; rintro e w4 ⟨rfl, D4, K4⟩
  have C4 := C3.out.keep (K4.block _ C3.out.lt (by omega))
  have hz4 := hz3.out.trans (K4.below (fun i hi => by omega) hz3.out.size)
  clear K4 hD c0 c1 c2 c3 c4 c5
  have c0 := C4.cell 0
  have c1 := C4.cell 1
  have c2 := C4.cell 2
  have c3 := C4.cell 3
  have c4 := C4.cell 4
  have c5 := C4.cell 5
  have hD := D4.cell 0
  replace C4 := Lib.hid C4
  replace D4 := Lib.hid D4
  replace hz4 := Lib.hid hz4
  go_wp2_with fail
  go_ret
  exact ⟨rfl, hz4.out⟩
set_option maxRecDepth 100000 in
set_option maxHeartbeats 2000000 in
theorem text_2 (B C O N : Nat) (t : ByteArray) (hB : B < 18446744073709551616) (hC : C ≤ 9223372036854775807) (hO : O < 18446744073709551616) (hN : N < 18446744073709551616) (ht : t.size ≤ 5000) (w : World) (htab : PTb w) (hr : PAct.right ⟨2, B, C, O, N, ⟨#[]⟩⟩ = true) :
    Calls Tryd.prog 5 #[.agg #[.int .i64 2, .int .u64 B, .int .i64 C, .int .u64 O, .int .u64 N, .string ⟨#[]⟩]] w fun e w' => e = .returned (.string (bs (actName 2 ++ 32 :: (Lib.decDigits B ++ 32 :: (Lib.decDigits C ++ 32 :: Lib.decDigits N))))) ∧ Below w.heap.size w w' := by
  have hR : ∀ W, Calls Tryd.prog 7 #[.agg #[.int .i64 2, .int .u64 B, .int .i64 C, .int .u64 O, .int .u64 N, .string ⟨#[]⟩]] W fun e W' => e = .returned (.bool true) ∧ Below W.heap.size W W' := fun W => by
    have h := right_any ⟨2, B, C, O, N, ⟨#[]⟩⟩ W (Nat.zero_le _)
    rw [hr] at h
    exact h
  have hnm : ∀ W, Calls Tryd.prog 13 #[.int .i64 2] W fun e w' => e = .returned (.string (bs (actName 2))) ∧ Below W.heap.size W w' := fun W => actName_any 2 (by decide) W
  have nl := name_len 2
  have dB := dec_20 hB
  have dC := dec_20 (n := C) (by omega)
  have dO := dec_20 hO
  have dN := dec_20 hN
  have hwc : IntKind.u64.wrap (C : Int) = (C : Int) := by rw [IntKind.wrap_u64]; omega
  have hW0 : Below w.heap.size w (w.alloc (.cells #[.int .i64 2, .int .u64 B, .int .i64 C, .int .u64 O, .int .u64 N, .string ⟨#[]⟩] 24)) := (Below.refl _ _).alloc (Nat.le_refl _) _
  have B1 := Blk.new w 24 #[.int .i64 2, .int .u64 B, .int .i64 C, .int .u64 O, .int .u64 N, .string ⟨#[]⟩]
  have hT := fun W (h : Below w.heap.size w W) => htab.below h
  replace hR := Lib.hid hR
  replace hnm := Lib.hid hnm
  replace hW0 := Lib.hid hW0
  replace B1 := Lib.hid B1
  replace hT := Lib.hid hT
  replace hr := Lib.hid hr
  clear htab
  go_enter Tryd.func5, Tryd.ntmps5
  go_wp2_with fail
  refine (hR.out _).mono ?_; rintro e w1 ⟨rfl, hb1⟩
  have C1 := B1.out.below hb1 (by simp)
  have hz1 := nx hW0.out (Nat.le_refl _) hb1
  have c0 := C1.cell 0
  replace C1 := Lib.hid C1
  replace hz1 := Lib.hid hz1
  clear hb1
  go_wp2_with fail
  refine (hnm.out _).mono ?_; rintro e w2 ⟨rfl, hb2⟩
  have C2 := (C1.out.below hb2 C1.out.lt).alloc (.cells #[.string (bs (actName 2))] 9)
  have D2 := Blk.new w2 9 #[.string (bs (actName 2))]
  have hz2 := Below.more_ (Below.next_ hz1.out hb2) (.cells #[.string (bs (actName 2))] 9)
  have hs2 := (Below.next_ hz1.out hb2).size
  have hl2 := C1.out.lt
  have hs12 := hb2.size
  clear hb2 c0
  have c0 := C2.cell 0
  have c1 := C2.cell 1
  have c2 := C2.cell 2
  have c3 := C2.cell 3
  have c4 := C2.cell 4
  have c5 := C2.cell 5
  have hD := D2.cell 0
  replace C2 := Lib.hid C2
  replace D2 := Lib.hid D2
  replace hz2 := Lib.hid hz2
  go_wp2_with fail
  refine (putA_any _ (actName 2) B hB (by first | omega | (simp; omega)) _ (hT.out _ hz2.out) D2.out).mono ?_; rintro e w3 ⟨rfl, D3, K3⟩
  have C3 := C2.out.keep (K3.block _ C2.out.lt (by omega))
  have hz3 := hz2.out.trans (K3.below (fun i hi => by omega) hz2.out.size)
  clear K3 hD c0 c1 c2 c3 c4 c5
  have c0 := C3.cell 0
  have c1 := C3.cell 1
  have c2 := C3.cell 2
  have c3 := C3.cell 3
  have c4 := C3.cell 4
  have c5 := C3.cell 5
  have hD := D3.cell 0
  replace C3 := Lib.hid C3
  replace D3 := Lib.hid D3
  replace hz3 := Lib.hid hz3
  go_wp2_with fail
  refine (putA_any _ ((actName 2) ++ 32 :: Lib.decDigits B) C (by omega) (by first | omega | (simp; omega)) _ (hT.out _ hz3.out) D3.out).mono ?_; rintro e w4 ⟨rfl, D4, K4⟩
  have C4 := C3.out.keep (K4.block _ C3.out.lt (by omega))
  have hz4 := hz3.out.trans (K4.below (fun i hi => by omega) hz3.out.size)
  clear K4 hD c0 c1 c2 c3 c4 c5
  have c0 := C4.cell 0
  have c1 := C4.cell 1
  have c2 := C4.cell 2
  have c3 := C4.cell 3
  have c4 := C4.cell 4
  have c5 := C4.cell 5
  have hD := D4.cell 0
  replace C4 := Lib.hid C4
  replace D4 := Lib.hid D4
  replace hz4 := Lib.hid hz4
  go_wp2_with fail
  refine (putA_any _ (((actName 2) ++ 32 :: Lib.decDigits B) ++ 32 :: Lib.decDigits C) N hN (by first | omega | (simp; omega)) _ (hT.out _ hz4.out) D4.out).mono ?_; rintro e w5 ⟨rfl, D5, K5⟩
  have C5 := C4.out.keep (K5.block _ C4.out.lt (by omega))
  have hz5 := hz4.out.trans (K5.below (fun i hi => by omega) hz4.out.size)
  clear K5 hD c0 c1 c2 c3 c4 c5
  have c0 := C5.cell 0
  have c1 := C5.cell 1
  have c2 := C5.cell 2
  have c3 := C5.cell 3
  have c4 := C5.cell 4
  have c5 := C5.cell 5
  have hD := D5.cell 0
  replace C5 := Lib.hid C5
  replace D5 := Lib.hid D5
  replace hz5 := Lib.hid hz5
  go_wp2_with fail
  go_ret
  exact ⟨rfl, hz5.out⟩
set_option maxRecDepth 100000 in
set_option maxHeartbeats 2000000 in
theorem text_3 (B C O N : Nat) (t : ByteArray) (hB : B < 18446744073709551616) (hC : C ≤ 9223372036854775807) (hO : O < 18446744073709551616) (hN : N < 18446744073709551616) (ht : t.size ≤ 5000) (w : World) (htab : PTb w) (hr : PAct.right ⟨3, B, C, O, N, ⟨#[]⟩⟩ = true) :
    Calls Tryd.prog 5 #[.agg #[.int .i64 3, .int .u64 B, .int .i64 C, .int .u64 O, .int .u64 N, .string ⟨#[]⟩]] w fun e w' => e = .returned (.string (bs (actName 3 ++ 32 :: (Lib.decDigits B ++ 32 :: (Lib.decDigits C ++ 32 :: (Lib.decDigits O ++ 32 :: Lib.decDigits N)))))) ∧ Below w.heap.size w w' := by
  have hR : ∀ W, Calls Tryd.prog 7 #[.agg #[.int .i64 3, .int .u64 B, .int .i64 C, .int .u64 O, .int .u64 N, .string ⟨#[]⟩]] W fun e W' => e = .returned (.bool true) ∧ Below W.heap.size W W' := fun W => by
    have h := right_any ⟨3, B, C, O, N, ⟨#[]⟩⟩ W (Nat.zero_le _)
    rw [hr] at h
    exact h
  have hnm : ∀ W, Calls Tryd.prog 13 #[.int .i64 3] W fun e w' => e = .returned (.string (bs (actName 3))) ∧ Below W.heap.size W w' := fun W => actName_any 3 (by decide) W
  have nl := name_len 3
  have dB := dec_20 hB
  have dC := dec_20 (n := C) (by omega)
  have dO := dec_20 hO
  have dN := dec_20 hN
  have hwc : IntKind.u64.wrap (C : Int) = (C : Int) := by rw [IntKind.wrap_u64]; omega
  have hW0 : Below w.heap.size w (w.alloc (.cells #[.int .i64 3, .int .u64 B, .int .i64 C, .int .u64 O, .int .u64 N, .string ⟨#[]⟩] 24)) := (Below.refl _ _).alloc (Nat.le_refl _) _
  have B1 := Blk.new w 24 #[.int .i64 3, .int .u64 B, .int .i64 C, .int .u64 O, .int .u64 N, .string ⟨#[]⟩]
  have hT := fun W (h : Below w.heap.size w W) => htab.below h
  replace hR := Lib.hid hR
  replace hnm := Lib.hid hnm
  replace hW0 := Lib.hid hW0
  replace B1 := Lib.hid B1
  replace hT := Lib.hid hT
  replace hr := Lib.hid hr
  clear htab
  go_enter Tryd.func5, Tryd.ntmps5
  go_wp2_with fail
  refine (hR.out _).mono ?_; rintro e w1 ⟨rfl, hb1⟩
  have C1 := B1.out.below hb1 (by simp)
  have hz1 := nx hW0.out (Nat.le_refl _) hb1
  have c0 := C1.cell 0
  replace C1 := Lib.hid C1
  replace hz1 := Lib.hid hz1
  clear hb1
  go_wp2_with fail
  refine (hnm.out _).mono ?_; rintro e w2 ⟨rfl, hb2⟩
  have C2 := (C1.out.below hb2 C1.out.lt).alloc (.cells #[.string (bs (actName 3))] 9)
  have D2 := Blk.new w2 9 #[.string (bs (actName 3))]
  have hz2 := Below.more_ (Below.next_ hz1.out hb2) (.cells #[.string (bs (actName 3))] 9)
  have hs2 := (Below.next_ hz1.out hb2).size
  have hl2 := C1.out.lt
  have hs12 := hb2.size
  clear hb2 c0
  have c0 := C2.cell 0
  have c1 := C2.cell 1
  have c2 := C2.cell 2
  have c3 := C2.cell 3
  have c4 := C2.cell 4
  have c5 := C2.cell 5
  have hD := D2.cell 0
  replace C2 := Lib.hid C2
  replace D2 := Lib.hid D2
  replace hz2 := Lib.hid hz2
  go_wp2_with fail
  refine (putA_any _ (actName 3) B hB (by first | omega | (simp; omega)) _ (hT.out _ hz2.out) D2.out).mono ?_; rintro e w3 ⟨rfl, D3, K3⟩
  have C3 := C2.out.keep (K3.block _ C2.out.lt (by omega))
  have hz3 := hz2.out.trans (K3.below (fun i hi => by omega) hz2.out.size)
  clear K3 hD c0 c1 c2 c3 c4 c5
  have c0 := C3.cell 0
  have c1 := C3.cell 1
  have c2 := C3.cell 2
  have c3 := C3.cell 3
  have c4 := C3.cell 4
  have c5 := C3.cell 5
  have hD := D3.cell 0
  replace C3 := Lib.hid C3
  replace D3 := Lib.hid D3
  replace hz3 := Lib.hid hz3
  go_wp2_with fail
  refine (putA_any _ ((actName 3) ++ 32 :: Lib.decDigits B) C (by omega) (by first | omega | (simp; omega)) _ (hT.out _ hz3.out) D3.out).mono ?_; rintro e w4 ⟨rfl, D4, K4⟩
  have C4 := C3.out.keep (K4.block _ C3.out.lt (by omega))
  have hz4 := hz3.out.trans (K4.below (fun i hi => by omega) hz3.out.size)
  clear K4 hD c0 c1 c2 c3 c4 c5
  have c0 := C4.cell 0
  have c1 := C4.cell 1
  have c2 := C4.cell 2
  have c3 := C4.cell 3
  have c4 := C4.cell 4
  have c5 := C4.cell 5
  have hD := D4.cell 0
  replace C4 := Lib.hid C4
  replace D4 := Lib.hid D4
  replace hz4 := Lib.hid hz4
  go_wp2_with fail
  refine (putA_any _ (((actName 3) ++ 32 :: Lib.decDigits B) ++ 32 :: Lib.decDigits C) O hO (by first | omega | (simp; omega)) _ (hT.out _ hz4.out) D4.out).mono ?_; rintro e w5 ⟨rfl, D5, K5⟩
  have C5 := C4.out.keep (K5.block _ C4.out.lt (by omega))
  have hz5 := hz4.out.trans (K5.below (fun i hi => by omega) hz4.out.size)
  clear K5 hD c0 c1 c2 c3 c4 c5
  have c0 := C5.cell 0
  have c1 := C5.cell 1
  have c2 := C5.cell 2
  have c3 := C5.cell 3
  have c4 := C5.cell 4
  have c5 := C5.cell 5
  have hD := D5.cell 0
  replace C5 := Lib.hid C5
  replace D5 := Lib.hid D5
  replace hz5 := Lib.hid hz5
  go_wp2_with fail
  refine (putA_any _ ((((actName 3) ++ 32 :: Lib.decDigits B) ++ 32 :: Lib.decDigits C) ++ 32 :: Lib.decDigits O) N hN (by first | omega | (simp; omega)) _ (hT.out _ hz5.out) D5.out).mono ?_; rintro e w6 ⟨rfl, D6, K6⟩
  have C6 := C5.out.keep (K6.block _ C5.out.lt (by omega))
  have hz6 := hz5.out.trans (K6.below (fun i hi => by omega) hz5.out.size)
  clear K6 hD c0 c1 c2 c3 c4 c5
  have c0 := C6.cell 0
  have c1 := C6.cell 1
  have c2 := C6.cell 2
  have c3 := C6.cell 3
  have c4 := C6.cell 4
  have c5 := C6.cell 5
  have hD := D6.cell 0
  replace C6 := Lib.hid C6
  replace D6 := Lib.hid D6
  replace hz6 := Lib.hid hz6
  go_wp2_with fail
  go_ret
  exact ⟨rfl, hz6.out⟩
set_option maxRecDepth 100000 in
set_option maxHeartbeats 2000000 in
theorem text_4 (B C O N : Nat) (t : ByteArray) (hB : B < 18446744073709551616) (hC : C ≤ 9223372036854775807) (hO : O < 18446744073709551616) (hN : N < 18446744073709551616) (ht : t.size ≤ 5000) (w : World) (htab : PTb w) (hr : PAct.right ⟨4, B, C, O, N, ⟨#[]⟩⟩ = true) :
    Calls Tryd.prog 5 #[.agg #[.int .i64 4, .int .u64 B, .int .i64 C, .int .u64 O, .int .u64 N, .string ⟨#[]⟩]] w fun e w' => e = .returned (.string (bs (actName 4 ++ 32 :: (Lib.decDigits B ++ 32 :: (Lib.decDigits C ++ 32 :: Lib.decDigits N))))) ∧ Below w.heap.size w w' := by
  have hR : ∀ W, Calls Tryd.prog 7 #[.agg #[.int .i64 4, .int .u64 B, .int .i64 C, .int .u64 O, .int .u64 N, .string ⟨#[]⟩]] W fun e W' => e = .returned (.bool true) ∧ Below W.heap.size W W' := fun W => by
    have h := right_any ⟨4, B, C, O, N, ⟨#[]⟩⟩ W (Nat.zero_le _)
    rw [hr] at h
    exact h
  have hnm : ∀ W, Calls Tryd.prog 13 #[.int .i64 4] W fun e w' => e = .returned (.string (bs (actName 4))) ∧ Below W.heap.size W w' := fun W => actName_any 4 (by decide) W
  have nl := name_len 4
  have dB := dec_20 hB
  have dC := dec_20 (n := C) (by omega)
  have dO := dec_20 hO
  have dN := dec_20 hN
  have hwc : IntKind.u64.wrap (C : Int) = (C : Int) := by rw [IntKind.wrap_u64]; omega
  have hW0 : Below w.heap.size w (w.alloc (.cells #[.int .i64 4, .int .u64 B, .int .i64 C, .int .u64 O, .int .u64 N, .string ⟨#[]⟩] 24)) := (Below.refl _ _).alloc (Nat.le_refl _) _
  have B1 := Blk.new w 24 #[.int .i64 4, .int .u64 B, .int .i64 C, .int .u64 O, .int .u64 N, .string ⟨#[]⟩]
  have hT := fun W (h : Below w.heap.size w W) => htab.below h
  replace hR := Lib.hid hR
  replace hnm := Lib.hid hnm
  replace hW0 := Lib.hid hW0
  replace B1 := Lib.hid B1
  replace hT := Lib.hid hT
  replace hr := Lib.hid hr
  clear htab
  go_enter Tryd.func5, Tryd.ntmps5
  go_wp2_with fail
  refine (hR.out _).mono ?_; rintro e w1 ⟨rfl, hb1⟩
  have C1 := B1.out.below hb1 (by simp)
  have hz1 := nx hW0.out (Nat.le_refl _) hb1
  have c0 := C1.cell 0
  replace C1 := Lib.hid C1
  replace hz1 := Lib.hid hz1
  clear hb1
  go_wp2_with fail
  refine (hnm.out _).mono ?_; rintro e w2 ⟨rfl, hb2⟩
  have C2 := (C1.out.below hb2 C1.out.lt).alloc (.cells #[.string (bs (actName 4))] 9)
  have D2 := Blk.new w2 9 #[.string (bs (actName 4))]
  have hz2 := Below.more_ (Below.next_ hz1.out hb2) (.cells #[.string (bs (actName 4))] 9)
  have hs2 := (Below.next_ hz1.out hb2).size
  have hl2 := C1.out.lt
  have hs12 := hb2.size
  clear hb2 c0
  have c0 := C2.cell 0
  have c1 := C2.cell 1
  have c2 := C2.cell 2
  have c3 := C2.cell 3
  have c4 := C2.cell 4
  have c5 := C2.cell 5
  have hD := D2.cell 0
  replace C2 := Lib.hid C2
  replace D2 := Lib.hid D2
  replace hz2 := Lib.hid hz2
  go_wp2_with fail
  refine (putA_any _ (actName 4) B hB (by first | omega | (simp; omega)) _ (hT.out _ hz2.out) D2.out).mono ?_; rintro e w3 ⟨rfl, D3, K3⟩
  have C3 := C2.out.keep (K3.block _ C2.out.lt (by omega))
  have hz3 := hz2.out.trans (K3.below (fun i hi => by omega) hz2.out.size)
  clear K3 hD c0 c1 c2 c3 c4 c5
  have c0 := C3.cell 0
  have c1 := C3.cell 1
  have c2 := C3.cell 2
  have c3 := C3.cell 3
  have c4 := C3.cell 4
  have c5 := C3.cell 5
  have hD := D3.cell 0
  replace C3 := Lib.hid C3
  replace D3 := Lib.hid D3
  replace hz3 := Lib.hid hz3
  go_wp2_with fail
  refine (putA_any _ ((actName 4) ++ 32 :: Lib.decDigits B) C (by omega) (by first | omega | (simp; omega)) _ (hT.out _ hz3.out) D3.out).mono ?_; rintro e w4 ⟨rfl, D4, K4⟩
  have C4 := C3.out.keep (K4.block _ C3.out.lt (by omega))
  have hz4 := hz3.out.trans (K4.below (fun i hi => by omega) hz3.out.size)
  clear K4 hD c0 c1 c2 c3 c4 c5
  have c0 := C4.cell 0
  have c1 := C4.cell 1
  have c2 := C4.cell 2
  have c3 := C4.cell 3
  have c4 := C4.cell 4
  have c5 := C4.cell 5
  have hD := D4.cell 0
  replace C4 := Lib.hid C4
  replace D4 := Lib.hid D4
  replace hz4 := Lib.hid hz4
  go_wp2_with fail
  refine (putA_any _ (((actName 4) ++ 32 :: Lib.decDigits B) ++ 32 :: Lib.decDigits C) N hN (by first | omega | (simp; omega)) _ (hT.out _ hz4.out) D4.out).mono ?_; rintro e w5 ⟨rfl, D5, K5⟩
  have C5 := C4.out.keep (K5.block _ C4.out.lt (by omega))
  have hz5 := hz4.out.trans (K5.below (fun i hi => by omega) hz4.out.size)
  clear K5 hD c0 c1 c2 c3 c4 c5
  have c0 := C5.cell 0
  have c1 := C5.cell 1
  have c2 := C5.cell 2
  have c3 := C5.cell 3
  have c4 := C5.cell 4
  have c5 := C5.cell 5
  have hD := D5.cell 0
  replace C5 := Lib.hid C5
  replace D5 := Lib.hid D5
  replace hz5 := Lib.hid hz5
  go_wp2_with fail
  go_ret
  exact ⟨rfl, hz5.out⟩
set_option maxRecDepth 100000 in
set_option maxHeartbeats 2000000 in
theorem text_6 (B C O N : Nat) (t : ByteArray) (hB : B < 18446744073709551616) (hC : C ≤ 9223372036854775807) (hO : O < 18446744073709551616) (hN : N < 18446744073709551616) (ht : t.size ≤ 5000) (w : World) (htab : PTb w) (hr : PAct.right ⟨6, B, C, O, N, ⟨#[]⟩⟩ = true) :
    Calls Tryd.prog 5 #[.agg #[.int .i64 6, .int .u64 B, .int .i64 C, .int .u64 O, .int .u64 N, .string ⟨#[]⟩]] w fun e w' => e = .returned (.string (bs (actName 6 ++ 32 :: Lib.decDigits B))) ∧ Below w.heap.size w w' := by
  have hR : ∀ W, Calls Tryd.prog 7 #[.agg #[.int .i64 6, .int .u64 B, .int .i64 C, .int .u64 O, .int .u64 N, .string ⟨#[]⟩]] W fun e W' => e = .returned (.bool true) ∧ Below W.heap.size W W' := fun W => by
    have h := right_any ⟨6, B, C, O, N, ⟨#[]⟩⟩ W (Nat.zero_le _)
    rw [hr] at h
    exact h
  have hnm : ∀ W, Calls Tryd.prog 13 #[.int .i64 6] W fun e w' => e = .returned (.string (bs (actName 6))) ∧ Below W.heap.size W w' := fun W => actName_any 6 (by decide) W
  have nl := name_len 6
  have dB := dec_20 hB
  have dC := dec_20 (n := C) (by omega)
  have dO := dec_20 hO
  have dN := dec_20 hN
  have hwc : IntKind.u64.wrap (C : Int) = (C : Int) := by rw [IntKind.wrap_u64]; omega
  have hW0 : Below w.heap.size w (w.alloc (.cells #[.int .i64 6, .int .u64 B, .int .i64 C, .int .u64 O, .int .u64 N, .string ⟨#[]⟩] 24)) := (Below.refl _ _).alloc (Nat.le_refl _) _
  have B1 := Blk.new w 24 #[.int .i64 6, .int .u64 B, .int .i64 C, .int .u64 O, .int .u64 N, .string ⟨#[]⟩]
  have hT := fun W (h : Below w.heap.size w W) => htab.below h
  replace hR := Lib.hid hR
  replace hnm := Lib.hid hnm
  replace hW0 := Lib.hid hW0
  replace B1 := Lib.hid B1
  replace hT := Lib.hid hT
  replace hr := Lib.hid hr
  clear htab
  go_enter Tryd.func5, Tryd.ntmps5
  go_wp2_with fail
  refine (hR.out _).mono ?_; rintro e w1 ⟨rfl, hb1⟩
  have C1 := B1.out.below hb1 (by simp)
  have hz1 := nx hW0.out (Nat.le_refl _) hb1
  have c0 := C1.cell 0
  replace C1 := Lib.hid C1
  replace hz1 := Lib.hid hz1
  clear hb1
  go_wp2_with fail
  refine (hnm.out _).mono ?_; rintro e w2 ⟨rfl, hb2⟩
  have C2 := (C1.out.below hb2 C1.out.lt).alloc (.cells #[.string (bs (actName 6))] 9)
  have D2 := Blk.new w2 9 #[.string (bs (actName 6))]
  have hz2 := Below.more_ (Below.next_ hz1.out hb2) (.cells #[.string (bs (actName 6))] 9)
  have hs2 := (Below.next_ hz1.out hb2).size
  have hl2 := C1.out.lt
  have hs12 := hb2.size
  clear hb2 c0
  have c0 := C2.cell 0
  have c1 := C2.cell 1
  have c2 := C2.cell 2
  have c3 := C2.cell 3
  have c4 := C2.cell 4
  have c5 := C2.cell 5
  have hD := D2.cell 0
  replace C2 := Lib.hid C2
  replace D2 := Lib.hid D2
  replace hz2 := Lib.hid hz2
  go_wp2_with fail
  refine (putA_any _ (actName 6) B hB (by first | omega | (simp; omega)) _ (hT.out _ hz2.out) D2.out).mono ?_; rintro e w3 ⟨rfl, D3, K3⟩
  have C3 := C2.out.keep (K3.block _ C2.out.lt (by omega))
  have hz3 := hz2.out.trans (K3.below (fun i hi => by omega) hz2.out.size)
  clear K3 hD c0 c1 c2 c3 c4 c5
  have c0 := C3.cell 0
  have c1 := C3.cell 1
  have c2 := C3.cell 2
  have c3 := C3.cell 3
  have c4 := C3.cell 4
  have c5 := C3.cell 5
  have hD := D3.cell 0
  replace C3 := Lib.hid C3
  replace D3 := Lib.hid D3
  replace hz3 := Lib.hid hz3
  go_wp2_with fail
  go_ret
  exact ⟨rfl, hz3.out⟩
set_option maxRecDepth 100000 in
set_option maxHeartbeats 2000000 in
theorem text_7 (B C O N : Nat) (t : ByteArray) (hB : B < 18446744073709551616) (hC : C ≤ 9223372036854775807) (hO : O < 18446744073709551616) (hN : N < 18446744073709551616) (ht : t.size ≤ 5000) (w : World) (htab : PTb w) (hr : PAct.right ⟨7, B, C, O, N, ⟨#[]⟩⟩ = true) :
    Calls Tryd.prog 5 #[.agg #[.int .i64 7, .int .u64 B, .int .i64 C, .int .u64 O, .int .u64 N, .string ⟨#[]⟩]] w fun e w' => e = .returned (.string (bs (actName 7 ++ 32 :: Lib.decDigits B))) ∧ Below w.heap.size w w' := by
  have hR : ∀ W, Calls Tryd.prog 7 #[.agg #[.int .i64 7, .int .u64 B, .int .i64 C, .int .u64 O, .int .u64 N, .string ⟨#[]⟩]] W fun e W' => e = .returned (.bool true) ∧ Below W.heap.size W W' := fun W => by
    have h := right_any ⟨7, B, C, O, N, ⟨#[]⟩⟩ W (Nat.zero_le _)
    rw [hr] at h
    exact h
  have hnm : ∀ W, Calls Tryd.prog 13 #[.int .i64 7] W fun e w' => e = .returned (.string (bs (actName 7))) ∧ Below W.heap.size W w' := fun W => actName_any 7 (by decide) W
  have nl := name_len 7
  have dB := dec_20 hB
  have dC := dec_20 (n := C) (by omega)
  have dO := dec_20 hO
  have dN := dec_20 hN
  have hwc : IntKind.u64.wrap (C : Int) = (C : Int) := by rw [IntKind.wrap_u64]; omega
  have hW0 : Below w.heap.size w (w.alloc (.cells #[.int .i64 7, .int .u64 B, .int .i64 C, .int .u64 O, .int .u64 N, .string ⟨#[]⟩] 24)) := (Below.refl _ _).alloc (Nat.le_refl _) _
  have B1 := Blk.new w 24 #[.int .i64 7, .int .u64 B, .int .i64 C, .int .u64 O, .int .u64 N, .string ⟨#[]⟩]
  have hT := fun W (h : Below w.heap.size w W) => htab.below h
  replace hR := Lib.hid hR
  replace hnm := Lib.hid hnm
  replace hW0 := Lib.hid hW0
  replace B1 := Lib.hid B1
  replace hT := Lib.hid hT
  replace hr := Lib.hid hr
  clear htab
  go_enter Tryd.func5, Tryd.ntmps5
  go_wp2_with fail
  refine (hR.out _).mono ?_; rintro e w1 ⟨rfl, hb1⟩
  have C1 := B1.out.below hb1 (by simp)
  have hz1 := nx hW0.out (Nat.le_refl _) hb1
  have c0 := C1.cell 0
  replace C1 := Lib.hid C1
  replace hz1 := Lib.hid hz1
  clear hb1
  go_wp2_with fail
  refine (hnm.out _).mono ?_; rintro e w2 ⟨rfl, hb2⟩
  have C2 := (C1.out.below hb2 C1.out.lt).alloc (.cells #[.string (bs (actName 7))] 9)
  have D2 := Blk.new w2 9 #[.string (bs (actName 7))]
  have hz2 := Below.more_ (Below.next_ hz1.out hb2) (.cells #[.string (bs (actName 7))] 9)
  have hs2 := (Below.next_ hz1.out hb2).size
  have hl2 := C1.out.lt
  have hs12 := hb2.size
  clear hb2 c0
  have c0 := C2.cell 0
  have c1 := C2.cell 1
  have c2 := C2.cell 2
  have c3 := C2.cell 3
  have c4 := C2.cell 4
  have c5 := C2.cell 5
  have hD := D2.cell 0
  replace C2 := Lib.hid C2
  replace D2 := Lib.hid D2
  replace hz2 := Lib.hid hz2
  go_wp2_with fail
  refine (putA_any _ (actName 7) B hB (by first | omega | (simp; omega)) _ (hT.out _ hz2.out) D2.out).mono ?_; rintro e w3 ⟨rfl, D3, K3⟩
  have C3 := C2.out.keep (K3.block _ C2.out.lt (by omega))
  have hz3 := hz2.out.trans (K3.below (fun i hi => by omega) hz2.out.size)
  clear K3 hD c0 c1 c2 c3 c4 c5
  have c0 := C3.cell 0
  have c1 := C3.cell 1
  have c2 := C3.cell 2
  have c3 := C3.cell 3
  have c4 := C3.cell 4
  have c5 := C3.cell 5
  have hD := D3.cell 0
  replace C3 := Lib.hid C3
  replace D3 := Lib.hid D3
  replace hz3 := Lib.hid hz3
  go_wp2_with fail
  go_ret
  exact ⟨rfl, hz3.out⟩
set_option maxRecDepth 100000 in
set_option maxHeartbeats 2000000 in
theorem text_8 (B C O N : Nat) (t : ByteArray) (hB : B < 18446744073709551616) (hC : C ≤ 9223372036854775807) (hO : O < 18446744073709551616) (hN : N < 18446744073709551616) (ht : t.size ≤ 5000) (w : World) (htab : PTb w) (hr : PAct.right ⟨8, B, C, O, N, ⟨#[]⟩⟩ = true) :
    Calls Tryd.prog 5 #[.agg #[.int .i64 8, .int .u64 B, .int .i64 C, .int .u64 O, .int .u64 N, .string ⟨#[]⟩]] w fun e w' => e = .returned (.string (bs ((actName 8)))) ∧ Below w.heap.size w w' := by
  have hR : ∀ W, Calls Tryd.prog 7 #[.agg #[.int .i64 8, .int .u64 B, .int .i64 C, .int .u64 O, .int .u64 N, .string ⟨#[]⟩]] W fun e W' => e = .returned (.bool true) ∧ Below W.heap.size W W' := fun W => by
    have h := right_any ⟨8, B, C, O, N, ⟨#[]⟩⟩ W (Nat.zero_le _)
    rw [hr] at h
    exact h
  have hnm : ∀ W, Calls Tryd.prog 13 #[.int .i64 8] W fun e w' => e = .returned (.string (bs (actName 8))) ∧ Below W.heap.size W w' := fun W => actName_any 8 (by decide) W
  have nl := name_len 8
  have dB := dec_20 hB
  have dC := dec_20 (n := C) (by omega)
  have dO := dec_20 hO
  have dN := dec_20 hN
  have hwc : IntKind.u64.wrap (C : Int) = (C : Int) := by rw [IntKind.wrap_u64]; omega
  have hW0 : Below w.heap.size w (w.alloc (.cells #[.int .i64 8, .int .u64 B, .int .i64 C, .int .u64 O, .int .u64 N, .string ⟨#[]⟩] 24)) := (Below.refl _ _).alloc (Nat.le_refl _) _
  have B1 := Blk.new w 24 #[.int .i64 8, .int .u64 B, .int .i64 C, .int .u64 O, .int .u64 N, .string ⟨#[]⟩]
  have hT := fun W (h : Below w.heap.size w W) => htab.below h
  replace hR := Lib.hid hR
  replace hnm := Lib.hid hnm
  replace hW0 := Lib.hid hW0
  replace B1 := Lib.hid B1
  replace hT := Lib.hid hT
  replace hr := Lib.hid hr
  clear htab
  go_enter Tryd.func5, Tryd.ntmps5
  go_wp2_with fail
  refine (hR.out _).mono ?_; rintro e w1 ⟨rfl, hb1⟩
  have C1 := B1.out.below hb1 (by simp)
  have hz1 := nx hW0.out (Nat.le_refl _) hb1
  have c0 := C1.cell 0
  replace C1 := Lib.hid C1
  replace hz1 := Lib.hid hz1
  clear hb1
  go_wp2_with fail
  refine (hnm.out _).mono ?_; rintro e w2 ⟨rfl, hb2⟩
  have C2 := (C1.out.below hb2 C1.out.lt).alloc (.cells #[.string (bs (actName 8))] 9)
  have D2 := Blk.new w2 9 #[.string (bs (actName 8))]
  have hz2 := Below.more_ (Below.next_ hz1.out hb2) (.cells #[.string (bs (actName 8))] 9)
  have hs2 := (Below.next_ hz1.out hb2).size
  have hl2 := C1.out.lt
  have hs12 := hb2.size
  clear hb2 c0
  have c0 := C2.cell 0
  have c1 := C2.cell 1
  have c2 := C2.cell 2
  have c3 := C2.cell 3
  have c4 := C2.cell 4
  have c5 := C2.cell 5
  have hD := D2.cell 0
  replace C2 := Lib.hid C2
  replace D2 := Lib.hid D2
  replace hz2 := Lib.hid hz2
  go_wp2_with fail
  go_ret
  exact ⟨rfl, hz2.out⟩
set_option maxRecDepth 100000 in
set_option maxHeartbeats 2000000 in
theorem text_9 (B C O N : Nat) (t : ByteArray) (hB : B < 18446744073709551616) (hC : C ≤ 9223372036854775807) (hO : O < 18446744073709551616) (hN : N < 18446744073709551616) (ht : t.size ≤ 5000) (w : World) (htab : PTb w) (hr : PAct.right ⟨9, B, C, O, N, ⟨#[]⟩⟩ = true) :
    Calls Tryd.prog 5 #[.agg #[.int .i64 9, .int .u64 B, .int .i64 C, .int .u64 O, .int .u64 N, .string ⟨#[]⟩]] w fun e w' => e = .returned (.string (bs ((actName 9)))) ∧ Below w.heap.size w w' := by
  have hR : ∀ W, Calls Tryd.prog 7 #[.agg #[.int .i64 9, .int .u64 B, .int .i64 C, .int .u64 O, .int .u64 N, .string ⟨#[]⟩]] W fun e W' => e = .returned (.bool true) ∧ Below W.heap.size W W' := fun W => by
    have h := right_any ⟨9, B, C, O, N, ⟨#[]⟩⟩ W (Nat.zero_le _)
    rw [hr] at h
    exact h
  have hnm : ∀ W, Calls Tryd.prog 13 #[.int .i64 9] W fun e w' => e = .returned (.string (bs (actName 9))) ∧ Below W.heap.size W w' := fun W => actName_any 9 (by decide) W
  have nl := name_len 9
  have dB := dec_20 hB
  have dC := dec_20 (n := C) (by omega)
  have dO := dec_20 hO
  have dN := dec_20 hN
  have hwc : IntKind.u64.wrap (C : Int) = (C : Int) := by rw [IntKind.wrap_u64]; omega
  have hW0 : Below w.heap.size w (w.alloc (.cells #[.int .i64 9, .int .u64 B, .int .i64 C, .int .u64 O, .int .u64 N, .string ⟨#[]⟩] 24)) := (Below.refl _ _).alloc (Nat.le_refl _) _
  have B1 := Blk.new w 24 #[.int .i64 9, .int .u64 B, .int .i64 C, .int .u64 O, .int .u64 N, .string ⟨#[]⟩]
  have hT := fun W (h : Below w.heap.size w W) => htab.below h
  replace hR := Lib.hid hR
  replace hnm := Lib.hid hnm
  replace hW0 := Lib.hid hW0
  replace B1 := Lib.hid B1
  replace hT := Lib.hid hT
  replace hr := Lib.hid hr
  clear htab
  go_enter Tryd.func5, Tryd.ntmps5
  go_wp2_with fail
  refine (hR.out _).mono ?_; rintro e w1 ⟨rfl, hb1⟩
  have C1 := B1.out.below hb1 (by simp)
  have hz1 := nx hW0.out (Nat.le_refl _) hb1
  have c0 := C1.cell 0
  replace C1 := Lib.hid C1
  replace hz1 := Lib.hid hz1
  clear hb1
  go_wp2_with fail
  refine (hnm.out _).mono ?_; rintro e w2 ⟨rfl, hb2⟩
  have C2 := (C1.out.below hb2 C1.out.lt).alloc (.cells #[.string (bs (actName 9))] 9)
  have D2 := Blk.new w2 9 #[.string (bs (actName 9))]
  have hz2 := Below.more_ (Below.next_ hz1.out hb2) (.cells #[.string (bs (actName 9))] 9)
  have hs2 := (Below.next_ hz1.out hb2).size
  have hl2 := C1.out.lt
  have hs12 := hb2.size
  clear hb2 c0
  have c0 := C2.cell 0
  have c1 := C2.cell 1
  have c2 := C2.cell 2
  have c3 := C2.cell 3
  have c4 := C2.cell 4
  have c5 := C2.cell 5
  have hD := D2.cell 0
  replace C2 := Lib.hid C2
  replace D2 := Lib.hid D2
  replace hz2 := Lib.hid hz2
  go_wp2_with fail
  go_ret
  exact ⟨rfl, hz2.out⟩
set_option maxRecDepth 100000 in
set_option maxHeartbeats 2000000 in
theorem text_10 (B C O N : Nat) (t : ByteArray) (hB : B < 18446744073709551616) (hC : C ≤ 9223372036854775807) (hO : O < 18446744073709551616) (hN : N < 18446744073709551616) (ht : t.size ≤ 5000) (w : World) (htab : PTb w) (hr : PAct.right ⟨10, B, C, O, N, ⟨#[]⟩⟩ = true) :
    Calls Tryd.prog 5 #[.agg #[.int .i64 10, .int .u64 B, .int .i64 C, .int .u64 O, .int .u64 N, .string ⟨#[]⟩]] w fun e w' => e = .returned (.string (bs (actName 10 ++ 32 :: (Lib.decDigits B ++ 32 :: Lib.decDigits C)))) ∧ Below w.heap.size w w' := by
  have hR : ∀ W, Calls Tryd.prog 7 #[.agg #[.int .i64 10, .int .u64 B, .int .i64 C, .int .u64 O, .int .u64 N, .string ⟨#[]⟩]] W fun e W' => e = .returned (.bool true) ∧ Below W.heap.size W W' := fun W => by
    have h := right_any ⟨10, B, C, O, N, ⟨#[]⟩⟩ W (Nat.zero_le _)
    rw [hr] at h
    exact h
  have hnm : ∀ W, Calls Tryd.prog 13 #[.int .i64 10] W fun e w' => e = .returned (.string (bs (actName 10))) ∧ Below W.heap.size W w' := fun W => actName_any 10 (by decide) W
  have nl := name_len 10
  have dB := dec_20 hB
  have dC := dec_20 (n := C) (by omega)
  have dO := dec_20 hO
  have dN := dec_20 hN
  have hwc : IntKind.u64.wrap (C : Int) = (C : Int) := by rw [IntKind.wrap_u64]; omega
  have hW0 : Below w.heap.size w (w.alloc (.cells #[.int .i64 10, .int .u64 B, .int .i64 C, .int .u64 O, .int .u64 N, .string ⟨#[]⟩] 24)) := (Below.refl _ _).alloc (Nat.le_refl _) _
  have B1 := Blk.new w 24 #[.int .i64 10, .int .u64 B, .int .i64 C, .int .u64 O, .int .u64 N, .string ⟨#[]⟩]
  have hT := fun W (h : Below w.heap.size w W) => htab.below h
  replace hR := Lib.hid hR
  replace hnm := Lib.hid hnm
  replace hW0 := Lib.hid hW0
  replace B1 := Lib.hid B1
  replace hT := Lib.hid hT
  replace hr := Lib.hid hr
  clear htab
  go_enter Tryd.func5, Tryd.ntmps5
  go_wp2_with fail
  refine (hR.out _).mono ?_; rintro e w1 ⟨rfl, hb1⟩
  have C1 := B1.out.below hb1 (by simp)
  have hz1 := nx hW0.out (Nat.le_refl _) hb1
  have c0 := C1.cell 0
  replace C1 := Lib.hid C1
  replace hz1 := Lib.hid hz1
  clear hb1
  go_wp2_with fail
  refine (hnm.out _).mono ?_; rintro e w2 ⟨rfl, hb2⟩
  have C2 := (C1.out.below hb2 C1.out.lt).alloc (.cells #[.string (bs (actName 10))] 9)
  have D2 := Blk.new w2 9 #[.string (bs (actName 10))]
  have hz2 := Below.more_ (Below.next_ hz1.out hb2) (.cells #[.string (bs (actName 10))] 9)
  have hs2 := (Below.next_ hz1.out hb2).size
  have hl2 := C1.out.lt
  have hs12 := hb2.size
  clear hb2 c0
  have c0 := C2.cell 0
  have c1 := C2.cell 1
  have c2 := C2.cell 2
  have c3 := C2.cell 3
  have c4 := C2.cell 4
  have c5 := C2.cell 5
  have hD := D2.cell 0
  replace C2 := Lib.hid C2
  replace D2 := Lib.hid D2
  replace hz2 := Lib.hid hz2
  go_wp2_with fail
  refine (putA_any _ (actName 10) B hB (by first | omega | (simp; omega)) _ (hT.out _ hz2.out) D2.out).mono ?_; rintro e w3 ⟨rfl, D3, K3⟩
  have C3 := C2.out.keep (K3.block _ C2.out.lt (by omega))
  have hz3 := hz2.out.trans (K3.below (fun i hi => by omega) hz2.out.size)
  clear K3 hD c0 c1 c2 c3 c4 c5
  have c0 := C3.cell 0
  have c1 := C3.cell 1
  have c2 := C3.cell 2
  have c3 := C3.cell 3
  have c4 := C3.cell 4
  have c5 := C3.cell 5
  have hD := D3.cell 0
  replace C3 := Lib.hid C3
  replace D3 := Lib.hid D3
  replace hz3 := Lib.hid hz3
  go_wp2_with fail
  refine (putA_any _ ((actName 10) ++ 32 :: Lib.decDigits B) C (by omega) (by first | omega | (simp; omega)) _ (hT.out _ hz3.out) D3.out).mono ?_; rintro e w4 ⟨rfl, D4, K4⟩
  have C4 := C3.out.keep (K4.block _ C3.out.lt (by omega))
  have hz4 := hz3.out.trans (K4.below (fun i hi => by omega) hz3.out.size)
  clear K4 hD c0 c1 c2 c3 c4 c5
  have c0 := C4.cell 0
  have c1 := C4.cell 1
  have c2 := C4.cell 2
  have c3 := C4.cell 3
  have c4 := C4.cell 4
  have c5 := C4.cell 5
  have hD := D4.cell 0
  replace C4 := Lib.hid C4
  replace D4 := Lib.hid D4
  replace hz4 := Lib.hid hz4
  go_wp2_with fail
  go_ret
  exact ⟨rfl, hz4.out⟩
set_option maxRecDepth 100000 in
set_option maxHeartbeats 2000000 in
theorem text_5 (B C O N : Nat) (t : ByteArray) (hB : B < 18446744073709551616) (hC : C ≤ 9223372036854775807) (hO : O < 18446744073709551616) (hN : N < 18446744073709551616) (ht : t.size ≤ 5000) (w : World) (htab : PTb w) (hr : PAct.right ⟨5, B, C, O, N, t⟩ = true) :
    Calls Tryd.prog 5 #[.agg #[.int .i64 5, .int .u64 B, .int .i64 C, .int .u64 O, .int .u64 N, .string t]] w fun e w' => e = .returned (.string (bs (makeText C t.data.toList))) ∧ Below w.heap.size w w' := by
  have hR : ∀ W, Calls Tryd.prog 7 #[.agg #[.int .i64 5, .int .u64 B, .int .i64 C, .int .u64 O, .int .u64 N, .string t]] W fun e W' => e = .returned (.bool true) ∧ Below W.heap.size W W' := fun W => by
    have h := right_any ⟨5, B, C, O, N, t⟩ W (show t.size ≤ 9223372036854775807 by omega)
    rw [hr] at h
    exact h
  have hnm : ∀ W, Calls Tryd.prog 13 #[.int .i64 5] W fun e w' => e = .returned (.string (bs (actName 5))) ∧ Below W.heap.size W w' := fun W => actName_any 5 (by decide) W
  have nl := name_len 5
  have dB := dec_20 hB
  have dC := dec_20 (n := C) (by omega)
  have dO := dec_20 hO
  have dN := dec_20 hN
  have hwc : IntKind.u64.wrap (C : Int) = (C : Int) := by rw [IntKind.wrap_u64]; omega
  have hW0 : Below w.heap.size w (w.alloc (.cells #[.int .i64 5, .int .u64 B, .int .i64 C, .int .u64 O, .int .u64 N, .string t] 24)) := (Below.refl _ _).alloc (Nat.le_refl _) _
  have B1 := Blk.new w 24 #[.int .i64 5, .int .u64 B, .int .i64 C, .int .u64 O, .int .u64 N, .string t]
  have hT := fun W (h : Below w.heap.size w W) => htab.below h
  replace hR := Lib.hid hR
  replace hnm := Lib.hid hnm
  replace hW0 := Lib.hid hW0
  replace B1 := Lib.hid B1
  replace hT := Lib.hid hT
  replace hr := Lib.hid hr
  clear htab
  go_enter Tryd.func5, Tryd.ntmps5
  go_wp2_with fail
  refine (hR.out _).mono ?_; rintro e w1 ⟨rfl, hb1⟩
  have C1 := B1.out.below hb1 (by simp)
  have hz1 := nx hW0.out (Nat.le_refl _) hb1
  have c0 := C1.cell 0
  replace C1 := Lib.hid C1
  replace hz1 := Lib.hid hz1
  clear hb1
  go_wp2_with fail
  refine (hnm.out _).mono ?_; rintro e w2 ⟨rfl, hb2⟩
  have C2 := (C1.out.below hb2 C1.out.lt).alloc (.cells #[.string (bs (actName 5))] 9)
  have D2 := Blk.new w2 9 #[.string (bs (actName 5))]
  have hz2 := Below.more_ (Below.next_ hz1.out hb2) (.cells #[.string (bs (actName 5))] 9)
  have hs2 := (Below.next_ hz1.out hb2).size
  have hl2 := C1.out.lt
  have hs12 := hb2.size
  clear hb2 c0
  have c0 := C2.cell 0
  have c1 := C2.cell 1
  have c2 := C2.cell 2
  have c3 := C2.cell 3
  have c4 := C2.cell 4
  have c5 := C2.cell 5
  have hD := D2.cell 0
  have sz2 := D2.lt
  replace C2 := Lib.hid C2
  replace D2 := Lib.hid D2
  replace hz2 := Lib.hid hz2
  have hdp := fun W (h : Below w.heap.size w W) => digitsPrint_any (hT.out W h) C hC
  have hqp := fun W => printQ_any t (by omega) W
  have hql := qprint_len t.data.toList
  rw [size_list_] at hql
  have ha1 : ∀ W, (Op.stringOp .add (bs (actName 5)) ⟨#[32]⟩).run Tryd.prog W = .ok (.string (bs (actName 5 ++ [32]))) W := fun W => add_str W (actName 5) [32] (by simp; omega)
  have ha2 := fun W => add_str W (actName 5 ++ [32]) (Lib.decDigits C) (by simp; omega)
  have ha3 : ∀ W, (Op.stringOp .add (bs ((actName 5 ++ [32]) ++ Lib.decDigits C)) ⟨#[32]⟩).run Tryd.prog W = .ok (.string (bs (((actName 5 ++ [32]) ++ Lib.decDigits C) ++ [32]))) W := fun W => add_str W ((actName 5 ++ [32]) ++ Lib.decDigits C) [32] (by simp; omega)
  have ha4 := fun W => add_str W (((actName 5 ++ [32]) ++ Lib.decDigits C) ++ [32]) (qprint t.data.toList) (by simp; omega)
  rw [show strL (Lib.decDigits C) = .string (bs (Lib.decDigits C)) from rfl] at hdp
  rw [show strL (qprint t.data.toList) = .string (bs (qprint t.data.toList)) from rfl] at hqp
  have hX4 : makeText C t.data.toList = (((actName 5 ++ [32]) ++ Lib.decDigits C) ++ [32]) ++ qprint t.data.toList := rfl
  generalize (((actName 5 ++ [32]) ++ Lib.decDigits C) ++ [32]) ++ qprint t.data.toList = X4 at *
  replace hX4 := Lib.hid hX4
  generalize ((actName 5 ++ [32]) ++ Lib.decDigits C) ++ [32] = X3 at *
  generalize (actName 5 ++ [32]) ++ Lib.decDigits C = X2 at *
  generalize actName 5 ++ [32] = X1 at *
  generalize actName 5 = X0 at *
  generalize qprint t.data.toList = Q0 at *
  replace hdp := Lib.hid hdp
  replace hqp := Lib.hid hqp
  go_upto_region 16 with fail
  refine wp_region_lex [(true, 0), (true, 1), (true, 2), (true, 3), (true, 7), (true, 8), (false, 4), (true, 5), (true, 6), (false, 9), (true, 10), (true, 11)] (fun W : World => W.cell? ⟨w2.heap.size, 0, none⟩ = some (.string (bs X0)) ∧ W.cell? ⟨w.heap.size, 2, none⟩ = some (.int .i64 C) ∧ W.cell? ⟨w.heap.size, 5, none⟩ = some (.string t)) (by kernel_rfl) (by kernel_rfl) (fun R hR => ?_)
  have hHeld : (fun W : World => W.cell? ⟨w2.heap.size, 0, none⟩ = some (.string (bs X0)) ∧ W.cell? ⟨w.heap.size, 2, none⟩ = some (.int .i64 C) ∧ W.cell? ⟨w.heap.size, 5, none⟩ = some (.string t)) (w2.alloc (.cells #[.string (bs X0)] 9)).drew := ⟨hD, c2, c5⟩
  have q0 : Below w.heap.size w (w2.alloc (.cells #[.string (bs X0)] 9)).drew := hz2.out.drew
  clear c0 c1 c2 c3 c4 c5 hD
  repeat (refine lex_take (v := ?_) rfl (by rfl) (by assumption) ?_ ?_; rotate_left 1; (focus (intro w hSw; (try dsimp only at hSw); go_simp; (try with_reducible rfl))); (try simp only [Act.put, List.setIfInBounds_toArray, List.set_cons_zero, List.set_cons_succ]))
  (refine lex_call rfl (by rfl) (fun K hq => ?_); go_simp)
  go_at_call 16
  refine (hdp.out _ q0).mono ?_; rintro e w3 ⟨rfl, hb3⟩
  have C3 := C2.out.drew.below hb3 C2.out.lt
  have D3 := D2.out.drew.below hb3 D2.out.lt
  clear hHeld
  have hHeld : (fun W : World => W.cell? ⟨w2.heap.size, 0, none⟩ = some (.string (bs X0)) ∧ W.cell? ⟨w.heap.size, 2, none⟩ = some (.int .i64 C) ∧ W.cell? ⟨w.heap.size, 5, none⟩ = some (.string t)) w3 := ⟨D3.cell 0, C3.cell 2, C3.cell 5⟩
  have q1 := Below.next_ q0 hb3
  clear hb3 q0
  replace C3 := Lib.hid C3
  replace D3 := Lib.hid D3
  go_wp2_with fail
  (refine hq.out _ _ (fun W : World => W.cell? ⟨w2.heap.size, 0, none⟩ = some (.string (bs X0)) ∧ W.cell? ⟨w.heap.size, 2, none⟩ = some (.int .i64 C) ∧ W.cell? ⟨w.heap.size, 5, none⟩ = some (.string t)) (fun _ h => h) hHeld ?_; clear hq K; (try simp only [Act.put, List.setIfInBounds_toArray, List.set_cons_zero, List.set_cons_succ]))
  repeat (refine lex_take (v := ?_) rfl (by rfl) (by assumption) ?_ ?_; rotate_left 1; (focus (intro w hSw; (try dsimp only at hSw); go_simp; (try with_reducible rfl))); (try simp only [Act.put, List.setIfInBounds_toArray, List.set_cons_zero, List.set_cons_succ]))
  (refine lex_call rfl (by rfl) (fun K hq => ?_); go_simp)
  go_at_call 17
  refine (hqp.out _).mono ?_; rintro e w4 ⟨rfl, hb4⟩
  have C4 := C3.out.below hb4 C3.out.lt
  have D4 := D3.out.below hb4 D3.out.lt
  clear hHeld
  have hHeld : (fun W : World => W.cell? ⟨w2.heap.size, 0, none⟩ = some (.string (bs X0)) ∧ W.cell? ⟨w.heap.size, 2, none⟩ = some (.int .i64 C) ∧ W.cell? ⟨w.heap.size, 5, none⟩ = some (.string t)) w4 := ⟨D4.cell 0, C4.cell 2, C4.cell 5⟩
  have q2 := Below.next_ q1 hb4
  clear hb4 q1
  go_wp2_with fail
  (refine hq.out _ _ (fun W : World => W.cell? ⟨w2.heap.size, 0, none⟩ = some (.string (bs X0)) ∧ W.cell? ⟨w.heap.size, 2, none⟩ = some (.int .i64 C) ∧ W.cell? ⟨w.heap.size, 5, none⟩ = some (.string t)) (fun _ h => h) hHeld ?_; clear hq K; (try simp only [Act.put, List.setIfInBounds_toArray, List.set_cons_zero, List.set_cons_succ]))
  repeat (refine lex_take (v := ?_) rfl (by rfl) (by assumption) ?_ ?_; rotate_left 1; (focus (intro w hSw; (try dsimp only at hSw); go_simp; (try with_reducible rfl))); (try simp only [Act.put, List.setIfInBounds_toArray, List.set_cons_zero, List.set_cons_succ]))
  refine lex_end ?_
  refine hR.out _ _ ?_
  clear hR R
  go_wp2_with fail
  go_ret
  exact ⟨by rw [hX4.out]; rfl, q2⟩
end Go.Proofs.YtmifgjkikbgmiaaDoor
