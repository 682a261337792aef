/-
  The document's Lines and Split (layer 4). No condition.
-/
import Derived.Test.YtpmnppjiipbonaaDoorQSame
import Derived.Test.YtpmnppjiipbonaaDoorQSplit
namespace Go.Proofs.YtpmnppjiipbonaaDoor
set_option linter.unusedVariables false
open Go.RowKit Go.Extern.Stop Go.Stop Go.Extern Go.ChangeShapes

theorem qrow_take0 {r : List (List UInt8)} (h : 0 < r.length) : qrow (r.take 1) = r[0] := by
  obtain ⟨x, t, rfl⟩ := List.exists_cons_of_ne_nil (List.ne_nil_of_length_pos h)
  rfl
theorem qrow_snoc : ∀ (r : List (List UInt8)) (x : List UInt8), r ≠ [] → qrow (r ++ [x]) = qrow r ++ [32] ++ x
  | [], _, h => absurd rfl h
  | [a], x, _ => by simp [qrow]
  | a :: b :: r, x, _ => by
    have := qrow_snoc (b :: r) x (by simp)
    simp only [List.cons_append, qrow] at this ⊢
    rw [this]
    simp
theorem qrow_take {r : List (List UInt8)} {j : Nat} (h0 : 0 < j) (h : j < r.length) : qrow (r.take (j + 1)) = qrow (r.take j) ++ [32] ++ r[j] := by
  rw [List.take_add_one, List.getElem?_eq_getElem h]
  exact qrow_snoc _ _ (fun e => by
    have := congrArg List.length e
    rw [List.length_take] at this
    have h3 : min j r.length = 0 := this
    omega)
theorem qrow_take_len (r : List (List UInt8)) : ∀ j, (qrow (r.take j)).length ≤ (qrow r).length := by
  intro j
  by_cases hj : j < r.length
  · have h : ∀ d, j + d ≤ r.length → (qrow (r.take j)).length ≤ (qrow (r.take (j + d))).length := by
      intro d
      induction d with
      | zero => intro _; exact Nat.le_refl _
      | succ d ih =>
        intro hd
        refine Nat.le_trans (ih (by omega)) ?_
        rw [← Nat.add_assoc]
        by_cases h0 : j + d = 0
        · rw [h0]; simp [qrow]
        · rw [qrow_take (by omega) (by omega)]; simp
    have := h (r.length - j) (by omega)
    rwa [show j + (r.length - j) = r.length by omega, List.take_length] at this
  · rw [List.take_of_length_le (by omega)]; exact Nat.le_refl _
set_option maxHeartbeats 1000000 in
set_option maxRecDepth 100000 in
theorem refLines_any {A : Option Addr} {c : Nat} {rows : List (List (List UInt8))} {w : World} (h : LL w w.heap.size A rows) (hn : rows.length ≤ 1000000) (hlen : (qlines rows).length ≤ 100000000) :
    Calls Tryd.prog 16 #[.slice A rows.length c] w fun e w' => e = .returned (strL (qlines rows)) ∧ Below w.heap.size w w' := by
  replace h := Lib.hid h
  go_enter Tryd.func16, Tryd.ntmps16
  go_wp2_with fail
  go_loopw [3, 4] (fun s i wr => ∃ k : Nat, s = .string (bs (qlines (rows.take k))) ∧ i = .int .i64 k ∧ k ≤ rows.length ∧ Below w.heap.size w wr) (fun _ i _ => rows.length + 1 - (intOf i).toNat)
  case atStart => exact ⟨0, rfl, rfl, by omega, Below.refl _ _⟩
  case round =>
    obtain ⟨k, rfl, rfl, hk, hb⟩ := hrel
    by_cases hlt : k < rows.length
    · have htk := qlines_take hlt
      have hrl := qlines_row_len rows hlt
      obtain ⟨ad, A', c', rfl, hab, hcell, hc1, hc2, hrd⟩ := (h.out.below hb).at_ hlt
      have hq := Lib.hid hcell
      have hml : rows[k].length ≤ 9223372036854775807 := by unfold maxLen at hc2; omega
      generalize rows[k] = r at *
      generalize qlines (rows.take k) = acc at *
      replace hrd := Lib.hid hrd
      replace htk := Lib.hid htk
      go_wp2_with fail
      go_loopw [3, 5] (fun s i wr' => ∃ j : Nat, s = .string (bs (acc ++ qrow (r.take j))) ∧ i = .int .i64 j ∧ j ≤ r.length ∧ Below wr.heap.size wr wr') (fun _ i _ => r.length + 1 - (intOf i).toNat)
      case atStart => exact ⟨0, by simp [qrow], rfl, by omega, Below.refl _ _⟩
      case round =>
        obtain ⟨j, rfl, rfl, hj, hb2⟩ := hrel
        have hsz := hb.size
        have e1 := (hb2.cell (p := ad.add k) (by rw [block_of_add]; omega)).trans hq.out
        by_cases hlj : j < r.length
        · obtain ⟨bd, rfl, hbd, f1⟩ := LL.word hrd.out hlj
          have g1 := (hb2.cell (p := bd.add j) (by rw [block_of_add]; omega)).trans f1
          have ht1 := qrow_take_len r (j + 1)
          clear f1 hcell
          by_cases h0 : j = 0
          · subst h0
            have g0 := g1
            rw [show bd.add 0 = bd by simp [Addr.add]] at g0
            have e2 : qrow (r.take (0 + 1)) = r[0] := qrow_take0 hlj
            have e3 : qrow (r.take 0) = [] := by simp [qrow]
            rw [e2] at ht1
            rw [e3]
            have hadd := fun W => add_str W acc r[0] (by omega)
            rw [List.append_nil]
            replace e2 := Lib.hid e2
            replace e3 := Lib.hid e3
            generalize r[0] = x at *
            go_wp2_with fail
            go_roundw
            case rel => exact ⟨0 + 1, by rw [e2.out], by go_num, by omega, hb2⟩
            case measure => (first | (simp [intOf]; done) | (simp [intOf]; omega))
          · have e2 := qrow_take (Nat.pos_of_ne_zero h0) hlj
            rw [e2] at ht1
            simp only [List.length_append, List.length_cons, List.length_nil] at ht1
            have hadd1 : ∀ W, (Op.stringOp .add (bs (acc ++ qrow (r.take j))) ⟨#[32]⟩).run Tryd.prog W = .ok (.string (bs (acc ++ qrow (r.take j) ++ [32]))) W := fun W => add_str W (acc ++ qrow (r.take j)) [32] (by simp; omega)
            have hadd := fun W => add_str W (acc ++ qrow (r.take j) ++ [32]) r[j] (by simp; omega)
            have hg0 : decide ((j : Int) > 0) = true := decide_eq_true (by omega)
            have hg1 : decide (0 < (j : Int)) = true := decide_eq_true (by omega)
            have hfin : acc ++ qrow (r.take (j + 1)) = acc ++ qrow (r.take j) ++ [32] ++ r[j] := by rw [e2]; simp
            replace e2 := Lib.hid e2
            replace hfin := Lib.hid hfin
            generalize r[j] = x at *
            generalize acc ++ qrow (r.take j) = y at *
            generalize y ++ [32] = y2 at *
            generalize y2 ++ x = y3 at *
            go_wp2_with fail
            go_roundw
            case rel => exact ⟨j + 1, by rw [hfin.out], by go_num, by omega, hb2⟩
            case measure => simp [intOf]; omega
        · obtain rfl : j = r.length := by omega
          have hadd : ∀ W, (Op.stringOp .add (bs (acc ++ qrow (r.take r.length))) ⟨#[10]⟩).run Tryd.prog W = .ok (.string (bs (acc ++ qrow (r.take r.length) ++ [10]))) W := fun W => add_str W (acc ++ qrow (r.take r.length)) [10] (by rw [List.take_length]; simp; omega)
          clear hcell
          rw [List.take_length] at hadd ⊢
          generalize acc ++ qrow r = y at *
          generalize y ++ [10] = y2 at *
          go_wp2_with fail
          go_roundw
          case rel => exact ⟨k + 1, by rw [htk.out], by go_num, by omega, Below.next_ hb hb2⟩
          case measure => simp [intOf]; omega
    · obtain rfl : k = rows.length := by omega
      rw [List.take_length]
      go_wp2_with fail
      go_ret
      exact ⟨rfl, hb⟩
end Go.Proofs.YtpmnppjiipbonaaDoor
