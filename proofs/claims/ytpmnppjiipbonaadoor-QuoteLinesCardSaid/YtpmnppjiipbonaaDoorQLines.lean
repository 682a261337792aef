/-
  quote.Lines: rows as lines (layer 4). No condition.
-/
import Derived.Test.YtpmnppjiipbonaaDoorQCut
import Derived.Test.YtpmnppjiipbonaaDoorBuilder
namespace Go.Proofs.YtpmnppjiipbonaaDoor
set_option linter.unusedVariables false
open Go.RowKit Go.Extern.Stop Go.Stop Go.Extern Go.ChangeShapes

theorem qrow_len : ∀ r : List (List UInt8), r.length ≤ (qrow r).length + 1
  | [] => Nat.zero_le _
  | [x] => by simp
  | x :: y :: r => by
    have := qrow_len (y :: r)
    simp only [qrow, List.length_append, List.length_cons] at this ⊢
    omega
theorem qlines_take {l : List (List (List UInt8))} {k : Nat} (h : k < l.length) : qlines (l.take (k + 1)) = qlines (l.take k) ++ qrow l[k] ++ [10] := by
  rw [List.take_add_one, List.getElem?_eq_getElem h]
  simp only [qlines, Option.toList_some, List.flatMap_append, List.flatMap_cons, List.flatMap_nil, List.append_nil, List.append_assoc]
theorem qlines_take_len (l : List (List (List UInt8))) (k : Nat) : (qlines (l.take k)).length ≤ (qlines l).length := by
  have e : qlines l = qlines (l.take k) ++ qlines (l.drop k) := by rw [qlines, qlines, qlines, ← List.flatMap_append, List.take_append_drop]
  rw [e, List.length_append]
  exact Nat.le_add_right _ _
theorem qlines_row_len (l : List (List (List UInt8))) {k : Nat} (h : k < l.length) : (qlines (l.take k)).length + (qrow l[k]).length + 1 ≤ (qlines l).length := by
  have := qlines_take_len l (k + 1)
  rw [qlines_take h] at this
  simpa [Nat.add_assoc] using this
theorem spot_none {w : World} {a : Addr} {u : Value} (h : w.cell? a = some u) : a = ⟨a.block, a.off, none⟩ := by
  obtain ⟨b, o, s⟩ := a
  cases s with
  | none => rfl
  | some x =>
    unfold World.cell? at h
    simp only [Option.isSome_some, if_true] at h
    split at h <;> simp at h
theorem join_any {A : Option Addr} {c B : Nat} {r : List (List UInt8)} {w : World} (h : Reads w B 1 A r.length (r.map strL)) (hB : B ≤ w.heap.size) (hc : r.length ≤ c) (hlen : (qrow r).length ≤ 1000000000) :
    Calls Tryd.prog 42 #[.slice A r.length c, .string ⟨#[32]⟩] w fun e w' => e = .returned (strL (qrow r)) ∧ Below w.heap.size w w' := by
  by_cases h0 : r.length = 0
  · obtain rfl := List.eq_nil_of_length_eq_zero h0
    refine (Tryd.strings_Join_none A c ⟨#[32]⟩ w).mono ?_
    rintro e w' ⟨rfl, rfl⟩
    exact ⟨rfl, Below.refl _ _⟩
  · obtain ⟨ad, rfl, hb, hr⟩ := h.2 (by omega)
    have hl := qrow_len r
    obtain ⟨x0, hx0⟩ : ∃ x0, r[0]? = some x0 := ⟨r[0]'(by omega), List.getElem?_eq_getElem _⟩
    have hs := spot_none (hr 0 (strL x0) (by rw [List.getElem?_map, hx0]; rfl))
    simp only [Addr.add, if_true] at hs
    have hm : ((r.map bs).map fun x : ByteArray => x.data.toList) = r := by
      rw [List.map_map]
      exact List.map_id'' (fun x => list_bs x) r
    have k := Tryd.strings_Join ad.block ad.off c (r.map bs) ⟨#[32]⟩ w (fun j x hx => by
      rw [List.getElem?_map, Option.map_eq_some_iff] at hx
      obtain ⟨y, hy, rfl⟩ := hx
      have := hr j (strL y) (by rw [List.getElem?_map, hy]; rfl)
      rw [hs] at this
      by_cases hj : j = 0
      · subst hj; simpa [Addr.add] using this
      · simpa [Addr.add, hj] using this) (by omega) (by rw [List.length_map]; omega) (by rw [List.length_map]; exact hc) (by
      rw [hm, show (⟨#[32]⟩ : ByteArray).data.toList = [32] from rfl, qrow_join]; omega)
    rw [hm, List.length_map, show (⟨#[32]⟩ : ByteArray).data.toList = [32] from rfl, qrow_join, ← hs] at k
    exact k
set_option maxHeartbeats 1000000 in
theorem lines_any {A : Option Addr} {c : Nat} {rows : List (List (List UInt8))} {w : World} (h : LL w w.heap.size A rows) (hn : rows.length ≤ 1000000) (hlen : (qlines rows).length ≤ 100000000) :
    Calls Tryd.prog 15 #[.slice A rows.length c] w fun e w' => e = .returned (strL (qlines rows)) ∧ Below w.heap.size w w' := by
  have hb0 : Below w.heap.size w (w.alloc (.cells #[.pointer none, .slice none 0 0] 77)) := (Below.refl _ _).alloc (Nat.le_refl _) _
  have hW := Wrote.start (bld_new w)
  replace hb0 := Lib.hid hb0
  replace hW := Lib.hid hW
  replace h := Lib.hid h
  go_enter Tryd.func15, Tryd.ntmps15
  go_wp2_with fail
  go_loopw [8] (fun i wr => ∃ k : Nat, i = .int .i64 k ∧ k ≤ rows.length ∧ Wrote (fun n => n = w.heap.size) w.heap.size (qlines (rows.take k)) (w.alloc (.cells #[.pointer none, .slice none 0 0] 77)) wr) (fun i _ => rows.length + 1 - (intOf i).toNat)
  case atStart => exact ⟨0, rfl, by omega, hW.out⟩
  case round =>
    obtain ⟨k, rfl, hk, hWr⟩ := hrel
    have hBr : Below w.heap.size w wr := hb0.out.trans (hWr.2.below (fun n hn => by omega) hb0.out.size)
    replace hBr := Lib.hid hBr
    by_cases hlt : k < rows.length
    · have htk := qlines_take hlt
      have hrl := qlines_row_len rows hlt
      obtain ⟨ad, A', c', rfl, hab, hcell, hc1, hc2, hrd⟩ := (h.out.below hBr.out).at_ hlt
      generalize rows[k] = r at *
      generalize qlines (rows.take k) = acc at *
      have hJ := join_any hrd hBr.out.size hc1 (by omega)
      replace hJ := Lib.hid hJ
      replace htk := Lib.hid htk
      clear hrd
      go_wp2_with fail
      refine (hJ.out).mono ?_; rintro e w1 ⟨rfl, hb1⟩
      go_wp2_with fail
      refine (writeString_any w.heap.size acc _ _ (hWr.1.below hb1) (by rw [size_bs]; omega)).mono ?_; rintro e w2 ⟨rfl, h2⟩
      replace h2 := hWr.next_ hb1 h2
      rw [list_bs] at h2
      go_wp2_with fail
      refine (writeByte_any w.heap.size _ 10 _ h2.1 (by simp; omega)).mono ?_; rintro e w3 ⟨rfl, h3⟩
      replace h3 := h2.next_ (Below.refl _ _) h3
      go_wp2_with fail
      go_roundw
      case rel => exact ⟨k + 1, by go_num, by omega, by rw [htk.out]; exact h3⟩
      case measure => simp [intOf]; omega
    · obtain rfl : k = rows.length := by omega
      go_wp2_with fail
      refine (string_any w.heap.size _ wr hWr.1 (B := w.heap.size) ?c1).mono ?_
      case c1 =>
        rintro j (hj | hj)
        · omega
        · have := hb0.out.size; omega
      rintro e w2 ⟨rfl, hb2⟩
      have hB2 := hBr.out.trans hb2
      go_wp2_with fail
      go_ret
      exact ⟨rfl, hB2⟩
end Go.Proofs.YtpmnppjiipbonaaDoor
