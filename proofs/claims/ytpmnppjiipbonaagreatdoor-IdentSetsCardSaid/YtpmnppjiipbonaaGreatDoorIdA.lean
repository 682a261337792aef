/-
  The document's Add (layer 12): a row of names with one more, where it stands by the order. No condition.
-/
import Derived.Test.YtpmnppjiipbonaaGreatDoorIdD
import Derived.Deep.CutRange
namespace Go.Proofs.YtpmnppjiipbonaaGreatDoor
set_option linter.unusedVariables false
open Go.ChangeShapes Go.WideShapes Go.ChangeAt Go.RowKit Go.Extern.Stop Go.Stop Go.Extern

def addIn (q : Int × Int) (s : List (Int × Int) × Bool) (p : Int × Int) : List (Int × Int) × Bool := if !s.2 && !idLt p q then (s.1 ++ [q], true) else s
def addStep (q : Int × Int) (s : List (Int × Int) × Bool) (p : Int × Int) : List (Int × Int) × Bool :=
  (if p != q then (addIn q s p).1 ++ [p] else (addIn q s p).1, (addIn q s p).2)
def addFold (q : Int × Int) (l : List (Int × Int)) : List (Int × Int) × Bool := l.foldl (addStep q) ([], false)
def addL (q : Int × Int) (l : List (Int × Int)) : List (Int × Int) := if (addFold q l).2 then (addFold q l).1 else (addFold q l).1 ++ [q]
theorem addFold_snoc (q p : Int × Int) (l : List (Int × Int)) : addFold q (l ++ [p]) = addStep q (addFold q l) p := by simp [addFold]
theorem addIn_len (q p : Int × Int) (s : List (Int × Int) × Bool) : (addIn q s p).1.length + s.2.toNat ≤ s.1.length + (addIn q s p).2.toNat := by
  unfold addIn
  by_cases h : s.2 = true
  · rw [h]; simp [h]
  · have h' : s.2 = false := by simpa using h
    rw [h']
    by_cases h2 : idLt p q = true <;> simp [h2, h']
theorem addStep_len (q p : Int × Int) (s : List (Int × Int) × Bool) : (addStep q s p).1.length + s.2.toNat ≤ s.1.length + 1 + (addStep q s p).2.toNat := by
  have := addIn_len q p s
  unfold addStep
  by_cases h : (p != q) = true
  · simp only [h, if_true, List.length_append, List.length_cons, List.length_nil]; omega
  · simp only [h]; simp only [Bool.false_eq_true, if_false]; omega
theorem own_keepI {w w' : World} {e : TypeId} {size n B : Nat} {v : Value} {xs : List Value} (h : w.ownsRow B e size v n xs) (hb : Below w.heap.size w w') : w'.ownsRow B e size v n xs :=
  ⟨h.1, h.2.imp id fun ⟨g, cap, cur, e1, e2, e3, r⟩ => ⟨g, cap, cur, e1, e2, (hb.block g (World.ownsRow.lt h g (by rw [e1]; rfl)).2).trans e3, r⟩⟩
theorem addFold_len0 (q : Int × Int) (l : List (Int × Int)) : ∀ s : List (Int × Int) × Bool, (l.foldl (addStep q) s).1.length + s.2.toNat ≤ s.1.length + l.length + (l.foldl (addStep q) s).2.toNat := by
  induction l with
  | nil => intro s; simp
  | cons p l ih =>
    intro s
    have h1 := ih (addStep q s p)
    have h2 := addStep_len q p s
    simp only [List.foldl_cons, List.length_cons]
    omega
theorem addFold_len (q : Int × Int) (l : List (Int × Int)) : (addFold q l).1.length ≤ l.length + (addFold q l).2.toNat := by
  have := addFold_len0 q l ([], false)
  simpa [addFold] using this
set_option maxHeartbeats 1000000 in
set_option maxRecDepth 100000 in
theorem refAdd_any {w : World} {A : Option Addr} {n cap : Nat} {l : List (Int × Int)} (hl : l.length = n) (hn : n ≤ 1000000) (hr : Reads w w.heap.size 2 A n (l.flatMap idCells)) (x y : Int) :
    Calls Tryz.prog 20 #[.slice A n cap, .agg #[.int .i64 x, .int .i64 y]] w fun e w' => ∃ B c, e = .returned (.slice B (addL (x, y) l).length c) ∧ w'.ownsRow w.heap.size 23 2 (.slice B (addL (x, y) l).length c) (addL (x, y) l).length ((addL (x, y) l).flatMap idCells) ∧ Below w.heap.size w w' := by
  obtain ⟨i0, hi, hz0, hz1, hz2⟩ := info_parts infoId
  have B1 := (Blk.new w 23 #[.int .i64 x, .int .i64 y]).alloc (.cells #[] 23)
  have hW1 : Below w.heap.size w ((w.alloc (.cells #[.int .i64 x, .int .i64 y] 23)).alloc (.cells #[] 23)) := ((Below.refl _ _).alloc (Nat.le_refl _) _).alloc (by simp) _
  have O1 : ((w.alloc (.cells #[.int .i64 x, .int .i64 y] 23)).alloc (.cells #[] 23)).ownsRow (w.heap.size + 1) 23 2 (.slice (some ⟨w.heap.size + 1, 0, none⟩) 0 0) 0 [] := ⟨rfl, .inr ⟨w.heap.size + 1, 0, #[], rfl, Nat.le_refl _, by
    have := Blk.new (w.alloc (.cells #[.int .i64 x, .int .i64 y] 23)) 23 #[]
    rwa [World.size_alloc] at this, Nat.le_refl _, Nat.zero_le _, rfl, rfl⟩⟩
  have hsz : ((w.alloc (.cells #[.int .i64 x, .int .i64 y] 23)).alloc (.cells #[] 23)).heap.size = w.heap.size + 2 := by simp
  obtain ⟨Q, hQ⟩ : ∃ Q, addL (x, y) l = Q := ⟨_, rfl⟩
  rw [hQ]
  replace hr := Lib.hid hr
  replace hW1 := Lib.hid hW1
  replace B1 := Lib.hid B1
  replace O1 := Lib.hid O1
  replace hQ := Lib.hid hQ
  go_enter Tryz.func20, Tryz.ntmps20
  go_wp2_with fail
  generalize ((w.alloc (.cells #[.int .i64 x, .int .i64 y] 23)).alloc (.cells #[] 23)) = W at *
  go_loopw [5, 6, 7] (fun v d i wr => ∃ k : Nat, i = .int .i64 k ∧ k ≤ n ∧ d = .bool (addFold (x, y) (l.take k)).2 ∧ wr.ownsRow (w.heap.size + 1) 23 2 v (addFold (x, y) (l.take k)).1.length ((addFold (x, y) (l.take k)).1.flatMap idCells) ∧ Below (w.heap.size + 1) W wr) (fun _ _ i _ => n + 1 - (intOf i).toNat)
  case atStart => exact ⟨0, rfl, Nat.zero_le _, rfl, by simpa [addFold] using O1.out, Below.refl _ _⟩
  case round =>
    obtain ⟨k, rfl, hk, rfl, hown, hb⟩ := hrel
    have hbw : Below w.heap.size w wr := hW1.out.trans (hb.mono (by omega))
    have hwz := hb.size
    have hq1 := addFold_len (x, y) (l.take k)
    have hq2 : (addFold (x, y) (l.take k)).2.toNat ≤ 1 := Bool.toNat_le _
    rw [List.length_take] at hq1
    by_cases hlt : k < n
    · obtain ⟨ad, x2, y2, rfl, hab, hx, c0, c1⟩ := ids_at (hr.out.below hbw) hl hlt
      have htk : l.take (k + 1) = l.take k ++ [(x2, y2)] := by rw [List.take_add_one, hx]; rfl
      have hstep : addFold (x, y) (l.take (k + 1)) = addStep (x, y) (addFold (x, y) (l.take k)) (x2, y2) := by rw [htk, addFold_snoc]
      obtain ⟨R, dn, hS⟩ : ∃ R dn, addFold (x, y) (l.take k) = (R, dn) := ⟨_, _, rfl⟩
      rw [hS] at hstep
      simp only [hS] at hown hq1 hq2 ⊢
      obtain ⟨R1, dn1, hS1⟩ : ∃ R1 dn1, addIn (x, y) (R, dn) (x2, y2) = (R1, dn1) := ⟨_, _, rfl⟩
      have hq3 : R1.length ≤ R.length + 1 := by
        have := congrArg (fun s => s.1.length) hS1
        unfold addIn at this
        split at this <;> simp at this <;> omega
      replace hq2 : R.length ≤ n + 1 := by omega
      clear hq1
      have X := B1.out.keep (hb.block _ (by omega))
      have x0 := X.cell 0
      have x1 := X.cell 1
      clear X
      replace hstep := Lib.hid hstep
      replace hx := Lib.hid hx
      replace htk := Lib.hid htk
      replace hS := Lib.hid hS
      replace hown := Lib.hid hown
      go_wp2_with fail
      obtain ⟨b, hbt⟩ : ∃ b : Bool, b = (!dn && !idLt (x2, y2) (x, y)) := ⟨_, rfl⟩
      have hS2 : (R1, dn1) = if b then (R ++ [(x, y)], true) else (R, dn) := by rw [← hS1, hbt]; rfl
      replace hS2 := Lib.hid hS2
      replace hS1 := Lib.hid hS1
      go_upto_region 6 with fail
      go_cut [25] from 9 to 42 (fun v wx => v = .bool b ∧ Below wr.heap.size wr wx)
      case first =>
        cases dn
        · have hc : ∀ W9, Calls Tryz.prog 15 #[.agg #[.int .i64 x2, .int .i64 y2], .agg #[.int .i64 x, .int .i64 y]] W9 fun e w' => e = .returned (.bool (!b)) ∧ Below W9.heap.size W9 w' := fun W9 => by rw [hbt]; simpa using refBefore_any x2 y2 x y W9
          replace hc := Lib.hid hc
          replace hbt := Lib.hid hbt
          go_region_with (go_at_call 15; refine (hc.out _).mono ?_; rintro e w9 ⟨rfl, hb9⟩)
          all_goals
            go_wp2_with fail
            go_meet
            case rel => exact ⟨by simp, hb9.os, hb9.tape, hb9.output, hb9.size, hb9.block⟩
        · obtain rfl : b = false := by rw [hbt]; rfl
          replace hbt := Lib.hid hbt
          go_region
          go_wp2_with fail
          go_meet
          case rel => exact ⟨rfl, (Below.refl _ _).drew⟩
      case rest =>
        obtain ⟨rfl, hb9⟩ := hcut
        have hown := own_keepI hown.out hb9
        have hb := hb.trans (hb9.mono (by omega))
        replace hbt := Lib.hid hbt
        have hwc := hb9.size
        replace hb9 := Lib.hid hb9
        cases b
        · have e1 : (R1, dn1) = (R, dn) := hS2.out
          injection e1 with e1 e2
          subst e1 e2
          have hbw5 : Below w.heap.size w wc := hW1.out.trans (hb.mono (by omega))
          have hwz5 := hb.size
          have X := B1.out.keep (hb.block _ (by omega))
          have x0 := X.cell 0
          have x1 := X.cell 1
          clear X
          obtain ⟨ad', x2', y2', had, hab', hx', c0, c1⟩ := ids_at (hr.out.below hbw5) hl hlt
          obtain rfl : ad = ad' := by injection had
          rw [hx.out] at hx'
          injection hx' with hx'
          injection hx' with e1 e2
          subst e1 e2
          clear had
          by_cases he : (x2, y2) = (x, y)
          · have hf : addFold (x, y) (l.take (k + 1)) = (R1, dn1) := by rw [hstep.out]; unfold addStep; rw [hS1.out]; simp [he]
            injection he with e1 e2
            subst e1 e2
            replace hf := Lib.hid hf
            replace hown := Lib.hid hown
            go_wp2_with fail
            go_region
            go_wp2_with fail
            go_roundw
            case rel => exact ⟨k + 1, by go_num, by omega, by rw [hf.out], by rw [hf.out]; exact hown.out.drew, hb.drew⟩
            case measure => simp [intOf]; omega
          · have hf : addFold (x, y) (l.take (k + 1)) = (R1 ++ [(x2, y2)], dn1) := by rw [hstep.out]; unfold addStep; rw [hS1.out]; simp [he]
            replace hf := Lib.hid hf
            rcases id_eq_false he with h | ⟨rfl, h⟩
            all_goals
              replace he := Lib.hid he
              go_wp2_with fail
              go_region
              go_wp2_with (at_builtin; go_loud (refine wpList_append_any _ rfl _ _ 37 rfl (w.heap.size + 1) 23 i0 (.agg #[.int .i64 0, .int .i64 0]) 2 16 Tryz.underlying37 hi hz0 hz1 hz2 rfl (by decide) _ _ _ rfl ((hown.alloc _).drew) (wc.heap.size + 1) (some ⟨wc.heap.size, 0, none⟩) 1 1 [.int .i64 x2, .int .i64 y2] rfl ((reads_two wc 23 (.int .i64 x2) (.int .i64 y2)).drew) (by simp [Value.oneCell']) (by unfold maxLen; omega) (by omega) (by simp; omega) ?_; intro v' w5 hown5 hgrow hloc; have hb5 := own_belowI (by omega) ((hb.alloc (by omega) (.cells #[.int .i64 x2, .int .i64 y2] 23)).drew) ((hown.alloc _).drew) hgrow; have hown5 : w5.ownsRow (w.heap.size + 1) 23 2 v' (R1 ++ [(x2, y2)]).length ((R1 ++ [(x2, y2)]).flatMap idCells) := (by simpa [idCells] using hown5); replace hb5 := Lib.hid hb5; replace hown5 := Lib.hid hown5))
              go_roundw
              case rel => exact ⟨k + 1, by go_num, by omega, by rw [hf.out], by rw [hf.out]; exact hown5.out, hb5.out⟩
              case measure => simp [intOf]; omega

        · have e1 : (R1, dn1) = (R ++ [(x, y)], true) := hS2.out
          injection e1 with e1 e2
          subst e1 e2
          have x0 : wc.cell? ⟨w.heap.size, 0, none⟩ = some (.int .i64 x) := (B1.out.keep (hb.block _ (by omega))).cell 0
          have x1 : wc.cell? ⟨w.heap.size, 1, none⟩ = some (.int .i64 y) := (B1.out.keep (hb.block _ (by omega))).cell 1
          go_wp2_with (at_builtin; go_loud (refine wpList_append_any _ rfl _ _ 37 rfl (w.heap.size + 1) 23 i0 (.agg #[.int .i64 0, .int .i64 0]) 2 16 Tryz.underlying37 hi hz0 hz1 hz2 rfl (by decide) _ _ _ rfl ((hown.alloc _)) (wc.heap.size + 1) (some ⟨wc.heap.size, 0, none⟩) 1 1 [.int .i64 x, .int .i64 y] rfl ((reads_two wc 23 (.int .i64 x) (.int .i64 y))) (by simp [Value.oneCell']) (by unfold maxLen; omega) (by omega) (by simp; omega) ?_; intro v' w5 hown5 hgrow hloc; have hb5 := own_belowI (by omega) ((hb.alloc (by omega) (.cells #[.int .i64 x, .int .i64 y] 23))) ((hown.alloc _)) hgrow; have hown5 : w5.ownsRow (w.heap.size + 1) 23 2 v' (R ++ [(x, y)]).length ((R ++ [(x, y)]).flatMap idCells) := (by simpa [idCells] using hown5); replace hb5 := Lib.hid hb5; replace hown5 := Lib.hid hown5))
          replace hown := hown5.out
          replace hb := hb5.out
          clear hown5 hb5 hgrow hloc x0 x1
          generalize hR1 : R ++ [(x, y)] = R1 at *
          have hq3 : R1.length = R.length + 1 := by rw [← hR1]; simp
          replace hR1 := Lib.hid hR1
          have hbw5 : Below w.heap.size w w5 := hW1.out.trans (hb.mono (by omega))
          have hwz5 := hb.size
          have X := B1.out.keep (hb.block _ (by omega))
          have x0 := X.cell 0
          have x1 := X.cell 1
          clear X
          obtain ⟨ad', x2', y2', had, hab', hx', c0, c1⟩ := ids_at (hr.out.below hbw5) hl hlt
          obtain rfl : ad = ad' := by injection had
          rw [hx.out] at hx'
          injection hx' with hx'
          injection hx' with e1 e2
          subst e1 e2
          clear had
          by_cases he : (x2, y2) = (x, y)
          · have hf : addFold (x, y) (l.take (k + 1)) = (R1, true) := by rw [hstep.out]; unfold addStep; rw [hS1.out]; simp [he]
            injection he with e1 e2
            subst e1 e2
            replace hf := Lib.hid hf
            replace hown := Lib.hid hown
            go_wp2_with fail
            go_region
            go_wp2_with fail
            go_roundw
            case rel => exact ⟨k + 1, by go_num, by omega, by rw [hf.out], by rw [hf.out]; exact hown.out.drew, hb.drew⟩
            case measure => simp [intOf]; omega
          · have hf : addFold (x, y) (l.take (k + 1)) = (R1 ++ [(x2, y2)], true) := by rw [hstep.out]; unfold addStep; rw [hS1.out]; simp [he]
            replace hf := Lib.hid hf
            rcases id_eq_false he with h | ⟨rfl, h⟩
            all_goals
              replace he := Lib.hid he
              go_wp2_with fail
              go_region
              go_wp2_with (at_builtin; go_loud (refine wpList_append_any _ rfl _ _ 37 rfl (w.heap.size + 1) 23 i0 (.agg #[.int .i64 0, .int .i64 0]) 2 16 Tryz.underlying37 hi hz0 hz1 hz2 rfl (by decide) _ _ _ rfl ((hown.alloc _).drew) (w5.heap.size + 1) (some ⟨w5.heap.size, 0, none⟩) 1 1 [.int .i64 x2, .int .i64 y2] rfl ((reads_two w5 23 (.int .i64 x2) (.int .i64 y2)).drew) (by simp [Value.oneCell']) (by unfold maxLen; omega) (by omega) (by simp; omega) ?_; intro v' w5 hown5 hgrow hloc; have hb5 := own_belowI (by omega) ((hb.alloc (by omega) (.cells #[.int .i64 x2, .int .i64 y2] 23)).drew) ((hown.alloc _).drew) hgrow; have hown5 : w5.ownsRow (w.heap.size + 1) 23 2 v' (R1 ++ [(x2, y2)]).length ((R1 ++ [(x2, y2)]).flatMap idCells) := (by simpa [idCells] using hown5); replace hb5 := Lib.hid hb5; replace hown5 := Lib.hid hown5))
              go_roundw
              case rel => exact ⟨k + 1, by go_num, by omega, by rw [hf.out], by rw [hf.out]; exact hown5.out, hb5.out⟩
              case measure => simp [intOf]; omega

    · obtain rfl : k = n := by omega
      rw [List.take_of_length_le (by omega)] at hown hq1 hq2 ⊢
      obtain ⟨R, dn, hS⟩ : ∃ R dn, addFold (x, y) l = (R, dn) := ⟨_, _, rfl⟩
      have hQ2 : Q = if dn then R else R ++ [(x, y)] := by rw [← hQ.out]; unfold addL; rw [hS]
      simp only [hS] at hown hq1 hq2 ⊢
      have X := B1.out.keep (hb.block _ (by omega))
      have x0 := X.cell 0
      have x1 := X.cell 1
      clear X
      have hfin : ∀ (v : Value) (w6 : World), w6.ownsRow (w.heap.size + 1) 23 2 v Q.length (Q.flatMap idCells) → ∃ B c, v = .slice B Q.length c ∧ w6.ownsRow w.heap.size 23 2 (.slice B Q.length c) Q.length (Q.flatMap idCells) := fun v w6 h => by
        have h2 : w6.ownsRow w.heap.size 23 2 v Q.length (Q.flatMap idCells) := ⟨h.1, h.2.imp id fun ⟨g, cap, cur, e1, e2, r⟩ => ⟨g, cap, cur, e1, by omega, r⟩⟩
        rcases h2.2 with ⟨rfl, h0⟩ | ⟨g, cap, cur, rfl, _⟩
        · exact ⟨none, 0, by rw [h0], by have := h2; rwa [h0] at this ⊢⟩
        · exact ⟨_, _, rfl, h2⟩

      replace hS := Lib.hid hS
      replace hq2 : R.length ≤ k + 1 := by omega
      clear hq1
      cases dn
      · obtain rfl : R ++ [(x, y)] = Q := hQ2.symm
        replace hfin := Lib.hid hfin
        replace hQ2 := Lib.hid hQ2
        go_wp2_with (at_builtin; go_loud (refine wpList_append_any _ rfl _ _ 37 rfl (w.heap.size + 1) 23 i0 (.agg #[.int .i64 0, .int .i64 0]) 2 16 Tryz.underlying37 hi hz0 hz1 hz2 rfl (by decide) _ _ _ rfl ((hown.alloc _)) (wr.heap.size + 1) (some ⟨wr.heap.size, 0, none⟩) 1 1 [.int .i64 x, .int .i64 y] rfl ((reads_two wr 23 (.int .i64 x) (.int .i64 y))) (by simp [Value.oneCell']) (by unfold maxLen; omega) (by omega) (by simp; omega) ?_; intro v' w5 hown5 hgrow hloc; have hb5 := own_belowI (by omega) ((hb.alloc (by omega) (.cells #[.int .i64 x, .int .i64 y] 23))) ((hown.alloc _)) hgrow; have hown5 : w5.ownsRow (w.heap.size + 1) 23 2 v' (R ++ [(x, y)]).length ((R ++ [(x, y)]).flatMap idCells) := (by simpa [idCells] using hown5); replace hb5 := Lib.hid hb5; replace hown5 := Lib.hid hown5))
        have hbw5 : Below w.heap.size w w5 := hW1.out.trans (hb5.out.mono (by omega))
        obtain ⟨B, c, rfl, h6⟩ := hfin.out _ _ hown5.out
        replace hbw5 := Lib.hid hbw5
        replace h6 := Lib.hid h6
        go_wp2_with fail
        go_ret
        exact ⟨_, _, rfl, h6.out, hbw5.out⟩
      · obtain rfl : R = Q := hQ2.symm
        obtain ⟨B, c, rfl, h6⟩ := hfin _ _ hown
        replace hfin := Lib.hid hfin
        replace hQ2 := Lib.hid hQ2
        replace h6 := Lib.hid h6
        go_wp2_with fail
        go_ret
        exact ⟨_, _, rfl, h6.out, hbw⟩
end Go.Proofs.YtpmnppjiipbonaaGreatDoor
