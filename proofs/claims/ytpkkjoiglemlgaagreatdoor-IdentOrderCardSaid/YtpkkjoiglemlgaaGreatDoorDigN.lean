/-
  The document's Natural and Print of a number (layer 3), of a name (layer 12). No condition.
-/
import Derived.Test.YtpkkjoiglemlgaaGreatDoorDigS
import Derived.Test.YtpkkjoiglemlgaaGreatDoorIdP
import Derived.Test.YtpkkjoiglemlgaaGreatDoorLexH
import Derived.Deep.Cut
namespace Go.Proofs.YtpkkjoiglemlgaaGreatDoor
set_option linter.unusedVariables false
open Go.ChangeShapes Go.WideShapes Go.ChangeAt Go.RowKit Go.Extern.Stop Go.Stop Go.Extern

@[irreducible] def dg10 (n : Nat) : UInt8 := UInt8.ofNat (48 + n % 10)
theorem dg10_eq (n : Nat) : 48 + (n : Int) % 10 = u8i (dg10 n) := by
  unfold dg10 u8i
  have : (UInt8.ofNat (48 + n % 10)).toNat = 48 + n % 10 := by simp; omega
  rw [this]
  omega
theorem dgdec_small {n : Nat} (h : n < 10) : Lib.decDigits n = [dg10 n] := by
  unfold dg10
  rw [Lib.decDigits, dif_pos h, Nat.mod_eq_of_lt h]
theorem dgdec_big {n : Nat} (h : ¬ n < 10) : Lib.decDigits n = Lib.decDigits (n / 10) ++ [dg10 n] := by
  unfold dg10
  rw [Lib.decDigits, dif_neg h]
/-- What is still to come ahead of the last digit. -/
def dgHead (n : Nat) : List UInt8 := if n < 10 then [] else Lib.decDigits (n / 10)
theorem dgdec_head (n : Nat) : Lib.decDigits n = dgHead n ++ [dg10 n] := by
  unfold dgHead
  split
  · exact dgdec_small (by assumption)
  · exact dgdec_big (by assumption)
theorem dgdec_len (n : Nat) (h : n < 18446744073709551616) : (Lib.decDigits n).length ≤ 20 := by rw [Lib.decDigits_length]; exact Lib.nDigits_le20 n h
set_option maxRecDepth 100000 in
theorem natural3_any (n : Nat) (hn : n < 18446744073709551616) (w : World) :
    Calls Tryz.prog 72 #[.int .u64 n] w fun e w' => e = .returned (strL (Lib.decDigits n)) ∧ Below w.heap.size w w' := by
  have hc := conv_one w (dg10 n)
  have hx := dg10_eq n
  have hlen := dgdec_len n hn
  go_enter Tryz.func72, Tryz.ntmps72
  go_wp2_with fail
  go_loopw [0, 3] (fun m s wr => ∃ (k : Nat) (l : List UInt8), k ≤ n ∧ m = .int .u64 k ∧ s = .string (bs l) ∧ Lib.decDigits n = dgHead k ++ l ∧ Below w.heap.size w wr) (fun m _ _ => (intOf m).toNat)
  case atStart => exact ⟨n, [dg10 n], Nat.le_refl _, rfl, rfl, dgdec_head n, by (repeat first | exact Below.refl _ _ | assumption | refine Below.drew ?_ | refine below_drewN ?_ _ | refine Below.more_ ?_ _ | refine Below.setCell ?_ (by first | exact Nat.le_refl _ | (simp; done) | (simp; omega)) _)⟩
  case round =>
    obtain ⟨k, l, hk, rfl, rfl, hl, hb⟩ := hrel
    clear hc hx
    by_cases hlt : k < 10
    · have e : dgHead k = [] := by unfold dgHead; rw [if_pos hlt]
      rw [e, List.nil_append] at hl
      replace hl := Lib.hid hl
      replace e := Lib.hid e
      go_wp2_with fail
      go_ret
      exact ⟨by rw [hl.out]; rfl, hb⟩
    · have e : dgHead k = dgHead (k / 10) ++ [dg10 (k / 10)] := by rw [← dgdec_head]; unfold dgHead; rw [if_neg hlt]
      have hll : l.length ≤ 20 := by
        have := congrArg List.length hl
        simp at this
        omega
      have hc := conv_one wr (dg10 (k / 10))
      have hx := dg10_eq (k / 10)
      push_cast at hx
      have ha := fun W => add_str W [dg10 (k / 10)] l (by simp; omega)
      rw [e, List.append_assoc] at hl
      replace hl := Lib.hid hl
      replace e := Lib.hid e
      go_wp2_with fail
      go_roundw
      case rel =>
        refine ⟨k / 10, [dg10 (k / 10)] ++ l, by omega, ?_, rfl, hl.out, ?_⟩
        · go_num
        · (repeat first | exact Below.refl _ _ | assumption | refine Below.drew ?_ | refine below_drewN ?_ _ | refine Below.more_ ?_ _ | refine Below.setCell ?_ (by first | exact Nat.le_refl _ | (simp; done) | (simp; omega)) _)
      case measure => simp [intOf]; omega
theorem refPrint3_any (n : Int) (h0 : -9223372036854775808 ≤ n) (h1 : n ≤ 9223372036854775807) (w : World) :
    Calls Tryz.prog 44 #[.int .i64 n] w fun e w' => e = .returned (strL (Lib.itoa n)) ∧ Below w.heap.size w w' := by
  by_cases hn : n < 0
  · obtain ⟨k, rfl⟩ : ∃ k : Nat, n = -(k : Int) := ⟨n.natAbs, by omega⟩
    have hN := natural3_any k (by omega) w
    have e := Lib.itoa_neg k (by omega)
    have hl := dgdec_len k (by omega)
    have hd : decide (-(k : Int) < 0) = true := decide_eq_true hn
    have w1 : IntKind.i64.wrap (-(k : Int) + 1) = -(k : Int) + 1 := by rw [IntKind.wrap_i64]; omega
    have w2 : IntKind.i64.wrap (-(-(k : Int) + 1)) = (k : Int) - 1 := by rw [IntKind.wrap_i64]; omega
    have w3 : IntKind.u64.wrap ((k : Int) - 1) = (k : Int) - 1 := by rw [IntKind.wrap_u64]; omega
    have w4 : IntKind.u64.wrap ((k : Int) - 1 + 1) = (k : Int) := by rw [IntKind.wrap_u64]; omega
    rw [e]
    replace e := Lib.hid e
    replace hN := Lib.hid hN
    generalize Lib.decDigits k = D at *
    go_enter Tryz.func44, Tryz.ntmps44
    go_wp2_with fail
    refine (hN.out).mono ?_; rintro e w1 ⟨rfl, hb⟩
    have ha : ∀ W, (Op.stringOp .add ⟨#[45]⟩ (bs D)).run Tryz.prog W = .ok (.string (bs (45 :: D))) W := fun W => add_str W [45] D (by simp; omega)
    go_wp2_with fail
    go_ret
    exact ⟨rfl, hb⟩
  · obtain ⟨k, rfl⟩ : ∃ k : Nat, n = (k : Int) := ⟨n.toNat, by omega⟩
    have hN := natural3_any k (by omega) w
    have e := Lib.itoa_nonneg k
    have hd : decide ((k : Int) < 0) = false := decide_eq_false hn
    have w3 : IntKind.u64.wrap (k : Int) = (k : Int) := by rw [IntKind.wrap_u64]; omega
    rw [e]
    replace e := Lib.hid e
    replace hN := Lib.hid hN
    generalize Lib.decDigits k = D at *
    go_enter Tryz.func44, Tryz.ntmps44
    go_wp2_with fail
    refine (hN.out).mono ?_; rintro e w1 ⟨rfl, hb⟩
    go_wp2_with fail
    go_ret
    exact ⟨rfl, hb⟩
set_option maxHeartbeats 8000000 in
set_option maxRecDepth 100000 in
theorem refIdPrint_any (w : World) (x y : Int) (hx0 : -9223372036854775808 ≤ x) (hx1 : x ≤ 9223372036854775807) (hy0 : -9223372036854775808 ≤ y) (hy1 : y ≤ 9223372036854775807) :
    Calls Tryz.prog 16 #[.agg #[.int .i64 x, .int .i64 y]] w fun e w' => e = .returned (strL (iText (x, y))) ∧ Below w.heap.size w w' := by
  have hl1 := itoa_len hx0 hx1
  have hl2 := itoa_len hy0 hy1
  have B1 := Blk.new w 23 #[.int .i64 x, .int .i64 y]
  have hW1 : Below w.heap.size w (w.alloc (.cells #[.int .i64 x, .int .i64 y] 23)) := (Below.refl _ _).alloc (Nat.le_refl _) _
  have hF1 := fun W (h : Below w.heap.size w W) => refPrint3_any x hx0 hx1 W
  have hF2 := fun W (h : Below w.heap.size w W) => refPrint3_any y hy0 hy1 W
  unfold iText
  simp only
  have ha1 : ∀ W, (Op.stringOp .add (bs (Lib.itoa x)) ⟨#[46]⟩).run Tryz.prog W = .ok (.string (bs (Lib.itoa x ++ [46]))) W := fun W => add_str W (Lib.itoa x) [46] (by simp; omega)
  have ha2 := fun W => add_str W (Lib.itoa x ++ [46]) (Lib.itoa y) (by simp; omega)
  rw [show strL (Lib.itoa x) = .string (bs (Lib.itoa x)) from rfl] at hF1
  rw [show strL (Lib.itoa y) = .string (bs (Lib.itoa y)) from rfl] at hF2
  generalize (Lib.itoa x ++ [46]) ++ Lib.itoa y = T2 at *
  generalize Lib.itoa x ++ [46] = T1 at *
  generalize Lib.itoa x = t1 at *
  generalize Lib.itoa y = t2 at *
  replace hF1 := Lib.hid hF1
  replace hF2 := Lib.hid hF2
  clear hl1 hl2 hx0 hx1 hy0 hy1
  have hsz : (w.alloc (.cells #[.int .i64 x, .int .i64 y] 23)).heap.size = w.heap.size + 1 := by simp
  have x0 := B1.cell 0
  have x1 := B1.cell 1
  have hK : ∀ w1 w2, Below w.heap.size w w1 → Blk w1 w.heap.size 23 #[.int .i64 x, .int .i64 y] → Below w1.heap.size w1 w2 → (w2.cell? ⟨w.heap.size, 0, none⟩ = some (.int .i64 x) ∧ w2.cell? ⟨w.heap.size, 1, none⟩ = some (.int .i64 y)) ∧ Blk w2 w.heap.size 23 #[.int .i64 x, .int .i64 y] ∧ Below w.heap.size w w2 := fun w1 w2 h1 hB h2 => by
    have hB2 := hB.below h2 hB.lt
    exact ⟨⟨hB2.cell 0, hB2.cell 1⟩, hB2, Below.next_ h1 h2⟩
  replace hK := Lib.hid hK
  replace B1 := Lib.hid B1
  replace hW1 := Lib.hid hW1
  go_enter Tryz.func16, Tryz.ntmps16
  go_upto_region 1 with fail
  refine wp_region_lex [(true, 0), (true, 1), (true, 4), (true, 5), (false, 2), (true, 3), (false, 6), (true, 7), (true, 8)] (fun W : World => W.cell? ⟨w.heap.size, 0, none⟩ = some (.int .i64 x) ∧ W.cell? ⟨w.heap.size, 1, none⟩ = some (.int .i64 y)) (by kernel_rfl) (by kernel_rfl) (fun R hR => ?_)
  have hHeld : (fun W : World => W.cell? ⟨w.heap.size, 0, none⟩ = some (.int .i64 x) ∧ W.cell? ⟨w.heap.size, 1, none⟩ = some (.int .i64 y)) (w.alloc (.cells #[.int .i64 x, .int .i64 y] 23)).drew := ⟨x0, x1⟩
  have q0 := hW1.out.drew
  have A0 := B1.out.drew
  clear x0 x1
  repeat (refine lex_take (v := ?_) rfl (by rfl) (by assumption) ?_ ?_; rotate_left 1; (focus (intro w hSw; (try dsimp only at hSw); go_simp; (try with_reducible rfl))); (try simp only [Act.put, List.setIfInBounds_toArray, List.set_cons_zero, List.set_cons_succ]))
  (refine lex_call rfl (by rfl) (fun K hq => ?_); go_simp)
  go_at_call 44
  refine (hF1.out _ q0).mono ?_; rintro e w5 ⟨rfl, hb5⟩
  obtain ⟨hs5, B5, hb05⟩ := hK.out _ _ q0 A0 hb5
  clear hHeld hb5
  have hHeld : (fun W : World => W.cell? ⟨w.heap.size, 0, none⟩ = some (.int .i64 x) ∧ W.cell? ⟨w.heap.size, 1, none⟩ = some (.int .i64 y)) w5 := hs5
  clear hs5
  go_wp2_with fail
  (refine hq.out _ _ (fun W : World => W.cell? ⟨w.heap.size, 0, none⟩ = some (.int .i64 x) ∧ W.cell? ⟨w.heap.size, 1, none⟩ = some (.int .i64 y)) (fun _ h => h) hHeld ?_; clear hq K; (try simp only [Act.put, List.setIfInBounds_toArray, List.set_cons_zero, List.set_cons_succ]))
  repeat (refine lex_take (v := ?_) rfl (by rfl) (by assumption) ?_ ?_; rotate_left 1; (focus (intro w hSw; (try dsimp only at hSw); go_simp; (try with_reducible rfl))); (try simp only [Act.put, List.setIfInBounds_toArray, List.set_cons_zero, List.set_cons_succ]))
  (refine lex_call rfl (by rfl) (fun K hq => ?_); go_simp)
  go_at_call 44
  refine (hF2.out _ hb05).mono ?_; rintro e w6 ⟨rfl, hb6⟩
  obtain ⟨hs6, B6, hb06⟩ := hK.out _ _ hb05 B5 hb6
  clear hHeld hb6
  have hHeld : (fun W : World => W.cell? ⟨w.heap.size, 0, none⟩ = some (.int .i64 x) ∧ W.cell? ⟨w.heap.size, 1, none⟩ = some (.int .i64 y)) w6 := hs6
  clear hs6
  go_wp2_with fail
  (refine hq.out _ _ (fun W : World => W.cell? ⟨w.heap.size, 0, none⟩ = some (.int .i64 x) ∧ W.cell? ⟨w.heap.size, 1, none⟩ = some (.int .i64 y)) (fun _ h => h) hHeld ?_; clear hq K; (try simp only [Act.put, List.setIfInBounds_toArray, List.set_cons_zero, List.set_cons_succ]))
  repeat (refine lex_take (v := ?_) rfl (by rfl) (by assumption) ?_ ?_; rotate_left 1; (focus (intro w hSw; (try dsimp only at hSw); go_simp; (try with_reducible rfl))); (try simp only [Act.put, List.setIfInBounds_toArray, List.set_cons_zero, List.set_cons_succ]))
  refine lex_end ?_
  refine hR.out _ _ ?_
  clear hR R
  go_wp2_with fail
  go_ret
  exact ⟨rfl, hb06⟩
end Go.Proofs.YtpkkjoiglemlgaaGreatDoor
