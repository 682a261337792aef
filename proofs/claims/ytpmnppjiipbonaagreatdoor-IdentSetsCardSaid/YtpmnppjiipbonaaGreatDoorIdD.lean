/-
  The document's rows of names (layer 12): Same at rows that are the same, Drop. No condition.
-/
import Derived.Test.YtpmnppjiipbonaaGreatDoorIdR
namespace Go.Proofs.YtpmnppjiipbonaaGreatDoor
set_option linter.unusedVariables false
open Go.ChangeShapes Go.WideShapes Go.ChangeAt Go.RowKit Go.Extern.Stop Go.Stop Go.Extern

theorem ids_len (l : List (Int × Int)) : (l.flatMap idCells).length = l.length * 2 := by
  induction l with
  | nil => rfl
  | cons p l ih => simp only [List.flatMap_cons, List.length_append, List.length_cons, ih, idCells]; simp; omega
theorem reads_two (w : World) (t : TypeId) (a b : Value) : Reads (w.alloc (.cells #[a, b] t)) (w.heap.size + 1) 2 (some ⟨w.heap.size, 0, none⟩) 1 [a, b] := by
  refine ⟨rfl, fun _ => ⟨_, rfl, by show w.heap.size < w.heap.size + 1; omega, fun j u hu => ?_⟩⟩
  have h := (Blk.new w t #[a, b]).cell j
  have e : (⟨w.heap.size, 0, none⟩ : Addr).add j = ⟨w.heap.size, j, none⟩ := by unfold Addr.add; split <;> simp_all
  rw [e, h]
  simpa using hu
theorem own_belowI {B : Nat} {w wr w1 : World} {e : TypeId} {size n : Nat} {v : Value} {xs : List Value} (hB : B ≤ w.heap.size) (h : Below B w wr) (ho : wr.ownsRow B e size v n xs) (hg : wr.grownBy w1 v.ownBlock) : Below B w w1 :=
  Below.grown h hg (Nat.le_trans hB h.size) fun k hk => (World.ownsRow.lt ho k hk).1
theorem infoId : (Tryz.prog.info? 23).map (fun i => (i.zero, i.size, i.bytes)) = some (some (.agg #[.int .i64 0, .int .i64 0]), 2, 16) := by kernel_rfl
set_option maxHeartbeats 1000000 in
set_option maxRecDepth 100000 in
theorem refSameI_any {w : World} {A A2 : Option Addr} {n cap cap2 : Nat} {l : List (Int × Int)} (hl : l.length = n) (hn : n ≤ 1000000) (hr : Reads w w.heap.size 2 A n (l.flatMap idCells)) (hr2 : Reads w w.heap.size 2 A2 n (l.flatMap idCells)) :
    Calls Tryz.prog 26 #[.slice A n cap, .slice A2 n cap2] w fun e w' => e = .returned (.bool true) ∧ Below w.heap.size w w' := by
  replace hr := Lib.hid hr
  replace hr2 := Lib.hid hr2
  go_enter Tryz.func26, Tryz.ntmps26
  go_wp2_with fail
  go_loopw [5] (fun i wr => ∃ k : Nat, i = .int .i64 k ∧ k ≤ n ∧ Below w.heap.size w wr) (fun i _ => n + 1 - (intOf i).toNat)
  case atStart => exact ⟨0, rfl, Nat.zero_le _, Below.refl _ _⟩
  case round =>
    obtain ⟨k, rfl, hk, hb⟩ := hrel
    by_cases hlt : k < n
    · obtain ⟨ad, x, y, rfl, hab, hx, c0, c1⟩ := ids_at (hr.out.below hb) hl hlt
      obtain ⟨ad2, x2, y2, rfl, hab2, hx2, d0, d1⟩ := ids_at (hr2.out.below hb) hl hlt
      have he := Option.some.inj (hx.symm.trans hx2)
      injection he with e1 e2
      subst e1 e2
      clear hx hx2
      go_wp2_with fail
      go_region
      go_wp2_with fail
      go_roundw
      case rel => exact ⟨k + 1, by go_num, by omega, hb.drew⟩
      case measure => simp [intOf]; omega
    · go_wp2_with fail
      go_ret
      exact ⟨rfl, hb⟩
set_option maxHeartbeats 1000000 in
set_option maxRecDepth 100000 in
theorem refDrop_any {w : World} {A : Option Addr} {n cap : Nat} {l : List (Int × Int)} (hl : l.length = n) (hn : n ≤ 1000000) (hr : Reads w w.heap.size 2 A n (l.flatMap idCells)) (x y : Int) :
    Calls Tryz.prog 25 #[.slice A n cap, .agg #[.int .i64 x, .int .i64 y]] w fun e w' => ∃ B c, e = .returned (.slice B (l.filter fun p => p != (x, y)).length c) ∧ w'.ownsRow w.heap.size 23 2 (.slice B (l.filter fun p => p != (x, y)).length c) (l.filter fun p => p != (x, y)).length ((l.filter fun p => p != (x, y)).flatMap idCells) ∧ Below w.heap.size w w' := by
  obtain ⟨i0, hi, hz0, hz1, hz2⟩ := info_parts infoId
  have B1 := (Blk.new w 23 #[.int .i64 x, .int .i64 y]).alloc (.cells #[] 23)
  have hW1 : Below w.heap.size w ((w.alloc (.cells #[.int .i64 x, .int .i64 y] 23)).alloc (.cells #[] 23)) := ((Below.refl _ _).alloc (Nat.le_refl _) _).alloc (by simp) _
  have O1 : ((w.alloc (.cells #[.int .i64 x, .int .i64 y] 23)).alloc (.cells #[] 23)).ownsRow (w.heap.size + 1) 23 2 (.slice (some ⟨w.heap.size + 1, 0, none⟩) 0 0) 0 [] := ⟨rfl, .inr ⟨w.heap.size + 1, 0, #[], rfl, Nat.le_refl _, by
    have := Blk.new (w.alloc (.cells #[.int .i64 x, .int .i64 y] 23)) 23 #[]
    rwa [World.size_alloc] at this, Nat.le_refl _, Nat.zero_le _, rfl, rfl⟩⟩
  have hsz : ((w.alloc (.cells #[.int .i64 x, .int .i64 y] 23)).alloc (.cells #[] 23)).heap.size = w.heap.size + 2 := by simp
  generalize hQ : (l.filter fun p => p != (x, y)) = Q at *
  replace hr := Lib.hid hr
  replace hW1 := Lib.hid hW1
  replace B1 := Lib.hid B1
  replace O1 := Lib.hid O1
  replace hQ := Lib.hid hQ
  go_enter Tryz.func25, Tryz.ntmps25
  go_wp2_with fail
  generalize ((w.alloc (.cells #[.int .i64 x, .int .i64 y] 23)).alloc (.cells #[] 23)) = W at *
  go_loopw [5, 6] (fun v i wr => ∃ k : Nat, i = .int .i64 k ∧ k ≤ n ∧ wr.ownsRow (w.heap.size + 1) 23 2 v ((l.take k).filter fun p => p != (x, y)).length (((l.take k).filter fun p => p != (x, y)).flatMap idCells) ∧ Below (w.heap.size + 1) W wr) (fun _ i _ => n + 1 - (intOf i).toNat)
  case atStart => exact ⟨0, rfl, Nat.zero_le _, by simpa using O1.out, Below.refl _ _⟩
  case round =>
    obtain ⟨k, rfl, hk, hown, hb⟩ := hrel
    have hbw : Below w.heap.size w wr := hW1.out.trans (hb.mono (by omega))
    have hwz := hb.size
    have X := B1.out.keep (hb.block _ (by omega))
    have x0 := X.cell 0
    have x1 := X.cell 1
    clear X
    by_cases hlt : k < n
    · obtain ⟨ad, x2, y2, rfl, hab, hx, c0, c1⟩ := ids_at (hr.out.below hbw) hl hlt
      have hq1 := List.length_filter_le (fun p => p != (x, y)) (l.take k)
      rw [List.length_take] at hq1
      have htk : l.take (k + 1) = l.take k ++ [(x2, y2)] := by rw [List.take_add_one, hx]; rfl
      by_cases he : (x2, y2) = (x, y)
      · have hf : (l.take (k + 1)).filter (fun p => p != (x, y)) = (l.take k).filter fun p => p != (x, y) := by rw [htk, List.filter_append, List.filter_cons_of_neg (by simp [he])]; simp
        injection he with e1 e2
        subst e1 e2
        replace hf := Lib.hid hf
        generalize (l.take k).filter (fun p => p != (x2, y2)) = R at *
        replace hown := Lib.hid hown
        replace hx := Lib.hid hx
        replace htk := Lib.hid htk
        go_wp2_with fail
        go_region
        go_wp2_with fail
        go_roundw
        case rel => exact ⟨k + 1, by go_num, by omega, by rw [hf.out]; exact hown.out, hb.drew⟩
        case measure => simp [intOf]; omega
      · have hf : (l.take (k + 1)).filter (fun p => p != (x, y)) = (l.take k).filter (fun p => p != (x, y)) ++ [(x2, y2)] := by rw [htk, List.filter_append, List.filter_cons_of_pos (by simpa using he)]; rfl
        replace hf := Lib.hid hf
        generalize (l.take k).filter (fun p => p != (x, y)) = R at *
        replace hx := Lib.hid hx
        replace htk := Lib.hid htk
        rcases id_eq_false he with h | ⟨rfl, h⟩
        all_goals
          replace he := Lib.hid he
          go_wp2_with fail
          go_region
          go_wp2_with (at_builtin; go_loud (refine wpList_append_any _ rfl _ _ 37 rfl (w.heap.size + 1) 23 i0 (.agg #[.int .i64 0, .int .i64 0]) 2 16 Tryz.underlying37 hi hz0 hz1 hz2 rfl (by decide) _ _ _ rfl ((hown.alloc _).drew) (wr.heap.size + 1) (some ⟨wr.heap.size, 0, none⟩) 1 1 [.int .i64 x2, .int .i64 y2] rfl ((reads_two wr 23 (.int .i64 x2) (.int .i64 y2)).drew) (by simp [Value.oneCell']) (by unfold maxLen; omega) (by omega) (by simp; omega) ?_; intro v' w5 hown5 hgrow hloc; have hb5 := own_belowI (by omega) ((hb.alloc (by omega) (.cells #[.int .i64 x2, .int .i64 y2] 23)).drew) ((hown.alloc _).drew) hgrow; have hown5 : w5.ownsRow (w.heap.size + 1) 23 2 v' (R ++ [(x2, y2)]).length ((R ++ [(x2, y2)]).flatMap idCells) := (by simpa [idCells] using hown5); replace hb5 := Lib.hid hb5; replace hown5 := Lib.hid hown5))
          go_roundw
          case rel => exact ⟨k + 1, by go_num, by omega, by rw [hf.out]; exact hown5.out, hb5.out⟩
          case measure => simp [intOf]; omega
    · obtain rfl : k = n := by omega
      rw [List.take_of_length_le (by omega), hQ.out] at hown
      have hbase : ∀ {v : Value}, wr.ownsRow (w.heap.size + 1) 23 2 v Q.length (Q.flatMap idCells) → wr.ownsRow w.heap.size 23 2 v Q.length (Q.flatMap idCells) := fun h => ⟨h.1, h.2.imp id fun ⟨g, cap, cur, e1, e2, r⟩ => ⟨g, cap, cur, e1, by omega, r⟩⟩
      rcases hown.2 with ⟨rfl, h0⟩ | ⟨g, cap, cur, rfl, _⟩
      · have e0 : (0 : Nat) = Q.length := h0.symm
        have hown' := hbase hown
        replace hown' := Lib.hid hown'
        replace e0 := Lib.hid e0
        replace h0 := Lib.hid h0
        go_wp2_with fail
        go_ret
        replace e0 := e0.out
        refine ⟨none, 0, ?_, ?_, hbw⟩
        · rw [← e0]; rfl
        · have := hown'.out
          rwa [← e0] at this ⊢
      · have hown' := hbase hown
        replace hown' := Lib.hid hown'
        go_wp2_with fail
        go_ret
        exact ⟨_, _, rfl, hown'.out, hbw⟩
end Go.Proofs.YtpmnppjiipbonaaGreatDoor
