/-
  Names (layer 12): which stands ahead; the document's Has, Same, Drop. No condition.
-/
import Derived.Test.YtpkkjoiglemlgaaGreatDoorIdO
namespace Go.Proofs.YtpkkjoiglemlgaaGreatDoor
set_option linter.unusedVariables false
open Go.ChangeShapes Go.WideShapes Go.ChangeAt Go.RowKit Go.Extern.Stop Go.Stop Go.Extern

def idLt (p q : Int × Int) : Bool := decide (p.1 < q.1 ∨ (p.1 = q.1 ∧ p.2 < q.2))
set_option maxHeartbeats 1000000 in
set_option maxRecDepth 100000 in
theorem before_any (x y x2 y2 : Int) (w : World) : Calls Tryz.prog 13 #[.agg #[.int .i64 x, .int .i64 y], .agg #[.int .i64 x2, .int .i64 y2]] w fun e w' => e = .returned (.bool (idLt (x, y) (x2, y2))) ∧ Below w.heap.size w w' := by
  have h : x < x2 ∨ x = x2 ∨ x2 < x := by omega
  rcases h with h | rfl | h
  · have e : idLt (x, y) (x2, y2) = true := decide_eq_true (.inl h)
    rw [e]
    have d1 : decide (x < x2) = true := decide_eq_true h
    go_enter Tryz.func13, Tryz.ntmps13
    go_wp2_with fail
    go_ret
    refine ⟨rfl, ?_⟩
    (repeat first | exact Below.refl _ _ | assumption | refine Below.drew ?_ | refine below_drewN ?_ _ | refine Below.more_ ?_ _ | refine Below.setCell ?_ (by first | exact Nat.le_refl _ | (simp; done) | (simp; omega)) _)
  · have e : idLt (x, y) (x, y2) = decide (y < y2) := by
      unfold idLt
      by_cases hy : y < y2 <;> simp [hy]
    rw [e]
    go_enter Tryz.func13, Tryz.ntmps13
    go_wp2_with fail
    go_ret
    refine ⟨rfl, ?_⟩
    (repeat first | exact Below.refl _ _ | assumption | refine Below.drew ?_ | refine below_drewN ?_ _ | refine Below.more_ ?_ _ | refine Below.setCell ?_ (by first | exact Nat.le_refl _ | (simp; done) | (simp; omega)) _)
  · have e : idLt (x, y) (x2, y2) = false := decide_eq_false (by simp only; omega)
    rw [e]
    have d1 : decide (x < x2) = false := decide_eq_false (by omega)
    have d2 : (x == x2) = false := beq_eq_false_iff_ne.2 (by omega)
    go_enter Tryz.func13, Tryz.ntmps13
    go_wp2_with fail
    go_ret
    refine ⟨rfl, ?_⟩
    (repeat first | exact Below.refl _ _ | assumption | refine Below.drew ?_ | refine below_drewN ?_ _ | refine Below.more_ ?_ _ | refine Below.setCell ?_ (by first | exact Nat.le_refl _ | (simp; done) | (simp; omega)) _)
set_option maxHeartbeats 1000000 in
set_option maxRecDepth 100000 in
theorem refBefore_any (x y x2 y2 : Int) (w : World) : Calls Tryz.prog 14 #[.agg #[.int .i64 x, .int .i64 y], .agg #[.int .i64 x2, .int .i64 y2]] w fun e w' => e = .returned (.bool (idLt (x, y) (x2, y2))) ∧ Below w.heap.size w w' := by
  have h : x ≠ x2 ∨ x = x2 := by omega
  rcases h with h | rfl
  · have e : idLt (x, y) (x2, y2) = decide (x < x2) := by
      unfold idLt
      by_cases hx : x < x2 <;> simp [hx, h]
    rw [e]
    have d1 : (x == x2) = false := beq_eq_false_iff_ne.2 h
    have d2 : (x != x2) = true := by rw [bne, d1]; rfl
    go_enter Tryz.func14, Tryz.ntmps14
    go_wp2_with fail
    go_ret
    refine ⟨rfl, ?_⟩
    (repeat first | exact Below.refl _ _ | assumption | refine Below.drew ?_ | refine below_drewN ?_ _ | refine Below.more_ ?_ _ | refine Below.setCell ?_ (by first | exact Nat.le_refl _ | (simp; done) | (simp; omega)) _)
  · have e : idLt (x, y) (x, y2) = decide (y < y2) := by
      unfold idLt
      by_cases hy : y < y2 <;> simp [hy]
    rw [e]
    go_enter Tryz.func14, Tryz.ntmps14
    go_wp2_with fail
    go_ret
    refine ⟨rfl, ?_⟩
    (repeat first | exact Below.refl _ _ | assumption | refine Below.drew ?_ | refine below_drewN ?_ _ | refine Below.more_ ?_ _ | refine Below.setCell ?_ (by first | exact Nat.le_refl _ | (simp; done) | (simp; omega)) _)
/-- The i-th name of a row that came in. -/
theorem ids_at {w : World} {B n : Nat} {A : Option Addr} {l : List (Int × Int)} (h : Reads w B 2 A n (l.flatMap idCells)) (hl : l.length = n) {k : Nat} (hk : k < n) :
    ∃ ad x y, A = some ad ∧ ad.block < B ∧ l[k]? = some (x, y) ∧ w.cell? (ad.add (k * 2)) = some (.int .i64 x) ∧ w.cell? ⟨(ad.add (k * 2)).block, (ad.add (k * 2)).off + 1, none⟩ = some (.int .i64 y) := by
  obtain ⟨ad, ⟨x, y⟩, rfl, hab, hx, hf⟩ := h.fld (mk := idCells) (fun _ => rfl) hk hl
  refine ⟨ad, x, y, rfl, hab, hx, hf 0 _ rfl, ?_⟩
  have := hf 1 _ rfl
  rw [← add_of_add] at this
  exact this
theorem id_eq_false {x y x2 y2 : Int} (h : (x, y) ≠ (x2, y2)) : (x == x2) = false ∨ (x = x2 ∧ (y == y2) = false) := by
  by_cases hx : x = x2
  · exact .inr ⟨hx, beq_eq_false_iff_ne.2 fun e => h (by rw [hx, e])⟩
  · exact .inl (beq_eq_false_iff_ne.2 hx)
set_option maxHeartbeats 1000000 in
set_option maxRecDepth 100000 in
theorem refHas_any {w : World} {A : Option Addr} {n cap : Nat} {l : List (Int × Int)} (hl : l.length = n) (hn : n ≤ 1000000) (hr : Reads w w.heap.size 2 A n (l.flatMap idCells)) (x y : Int) :
    Calls Tryz.prog 49 #[.slice A n cap, .agg #[.int .i64 x, .int .i64 y]] w fun e w' => e = .returned (.bool (decide ((x, y) ∈ l))) ∧ Below w.heap.size w w' := by
  have hW1 : Below w.heap.size w (w.alloc (.cells #[.int .i64 x, .int .i64 y] 23)) := (Below.refl _ _).alloc (Nat.le_refl _) _
  have B1 := Blk.new w 23 #[.int .i64 x, .int .i64 y]
  generalize hW : w.alloc (.cells #[.int .i64 x, .int .i64 y] 23) = W at *
  have hsz : W.heap.size = w.heap.size + 1 := by rw [← hW]; simp
  replace hr := Lib.hid hr
  replace hW1 := Lib.hid hW1
  replace B1 := Lib.hid B1
  go_enter Tryz.func49, Tryz.ntmps49
  go_wp2_with fail
  go_loopw [5] (fun i wr => ∃ k : Nat, i = .int .i64 k ∧ k ≤ n ∧ (∀ p ∈ l.take k, p ≠ (x, y)) ∧ Below W.heap.size W wr) (fun i _ => n + 1 - (intOf i).toNat)
  case atStart => exact ⟨0, rfl, Nat.zero_le _, by simp, by first | exact Below.refl _ _ | (rw [hW]; exact Below.refl _ _)⟩
  case round =>
    obtain ⟨k, rfl, hk, hno, hb⟩ := hrel
    have hbw : Below w.heap.size w wr := hW1.out.trans (hb.mono (by omega))
    have X := B1.out.below hb B1.out.lt
    have x0 := X.cell 0
    have x1 := X.cell 1
    clear X
    by_cases hlt : k < n
    · obtain ⟨ad, x2, y2, rfl, hab, hx, c0, c1⟩ := ids_at (hr.out.below hbw) hl hlt
      replace hno := Lib.hid hno
      by_cases he : (x2, y2) = (x, y)
      · injection he with e1 e2
        subst e1 e2
        have hmem := decide_eq_true (List.mem_of_getElem? hx)
        replace hx := Lib.hid hx
        replace hmem := Lib.hid hmem
        go_wp2_with fail
        go_region
        go_wp2_with fail
        go_ret
        exact ⟨by rw [hmem.out]; rfl, hbw.drew⟩
      · have hno2 : ∀ p ∈ l.take (k + 1), p ≠ (x, y) := fun p hp => by
          rw [List.take_add_one, hx] at hp
          rcases List.mem_append.1 hp with hp | hp
          · exact hno.out p hp
          · have : p = (x2, y2) := by simpa using hp
            rw [this]; exact he
        replace hno2 := Lib.hid hno2
        replace hx := Lib.hid hx
        rcases id_eq_false he with h | ⟨rfl, h⟩
        all_goals
          replace he := Lib.hid he
          go_wp2_with fail
          go_region
          go_wp2_with fail
          go_roundw
          case rel => exact ⟨k + 1, by go_num, by omega, hno2.out, hb.drew⟩
          case measure => simp [intOf]; omega
    · obtain rfl : k = n := by omega
      have hmem : decide ((x, y) ∈ l) = false := decide_eq_false fun hm => by
        rw [List.take_of_length_le (by omega)] at hno
        exact hno _ hm rfl
      replace hmem := Lib.hid hmem
      replace hno := Lib.hid hno
      go_wp2_with fail
      go_ret
      exact ⟨by rw [hmem.out]; rfl, hbw⟩
end Go.Proofs.YtpkkjoiglemlgaaGreatDoor
