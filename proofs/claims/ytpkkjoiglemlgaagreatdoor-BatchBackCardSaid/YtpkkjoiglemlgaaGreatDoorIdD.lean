/-
  The document's rows of names (layer 12): Same at rows that are the same, Drop. No condition.
-/
import Derived.Test.YtpkkjoiglemlgaaGreatDoorIdR
namespace Go.Proofs.YtpkkjoiglemlgaaGreatDoor
set_option linter.unusedVariables false
open Go.ChangeShapes Go.WideShapes Go.ChangeAt Go.RowKit Go.Extern.Stop Go.Stop Go.Extern

theorem ids_len (l : List (Int × Int)) : (l.flatMap idCells).length = l.length * 2 := by
  induction l with
  | nil => rfl
  | cons p l ih => simp only [List.flatMap_cons, List.length_append, List.length_cons, ih, idCells]; simp; omega
theorem reads_two (w : World) (t : TypeId) (a b : Value) : Reads (w.alloc (.cells #[a, b] t)) (w.heap.size + 1) 2 (some ⟨w.heap.size, 0, none⟩) 1 [a, b] := by
  refine ⟨rfl, fun _ => ⟨_, rfl, by show w.heap.size < w.heap.size + 1; omega, fun j u hu => ?_⟩⟩
  have h := (Blk.new w t #[a, b]).cell j
  have e : (⟨w.heap.size, 0, none⟩ : Addr).add j = ⟨w.heap.size, j, none⟩ := by unfold Addr.add; split <;> simp_all
  rw [e, h]
  simpa using hu
theorem own_belowI {B : Nat} {w wr w1 : World} {e : TypeId} {size n : Nat} {v : Value} {xs : List Value} (hB : B ≤ w.heap.size) (h : Below B w wr) (ho : wr.ownsRow B e size v n xs) (hg : wr.grownBy w1 v.ownBlock) : Below B w w1 :=
  Below.grown h hg (Nat.le_trans hB h.size) fun k hk => (World.ownsRow.lt ho k hk).1
theorem infoId : (Tryz.prog.info? 23).map (fun i => (i.zero, i.size, i.bytes)) = some (some (.agg #[.int .i64 0, .int .i64 0]), 2, 16) := by kernel_rfl
set_option maxHeartbeats 1000000 in
set_option maxRecDepth 100000 in
theorem refSameI_any {w : World} {A A2 : Option Addr} {n cap cap2 : Nat} {l : List (Int × Int)} (hl : l.length = n) (hn : n ≤ 1000000) (hr : Reads w w.heap.size 2 A n (l.flatMap idCells)) (hr2 : Reads w w.heap.size 2 A2 n (l.flatMap idCells)) :
    Calls Tryz.prog 31 #[.slice A n cap, .slice A2 n cap2] w fun e w' => e = .returned (.bool true) ∧ Below w.heap.size w w' := by
  replace hr := Lib.hid hr
  replace hr2 := Lib.hid hr2
  go_enter Tryz.func31, Tryz.ntmps31
  go_wp2_with fail
  go_loopw [5] (fun i wr => ∃ k : Nat, i = .int .i64 k ∧ k ≤ n ∧ Below w.heap.size w wr) (fun i _ => n + 1 - (intOf i).toNat)
  case atStart => exact ⟨0, rfl, Nat.zero_le _, Below.refl _ _⟩
  case round =>
    obtain ⟨k, rfl, hk, hb⟩ := hrel
    by_cases hlt : k < n
    · obtain ⟨ad, x, y, rfl, hab, hx, c0, c1⟩ := ids_at (hr.out.below hb) hl hlt
      obtain ⟨ad2, x2, y2, rfl, hab2, hx2, d0, d1⟩ := ids_at (hr2.out.below hb) hl hlt
      have he := Option.some.inj (hx.symm.trans hx2)
      injection he with e1 e2
      subst e1 e2
      clear hx hx2
      go_wp2_with fail
      go_region
      go_wp2_with fail
      go_roundw
      case rel => exact ⟨k + 1, by go_num, by omega, hb.drew⟩
      case measure => simp [intOf]; omega
    · go_wp2_with fail
      go_ret
      exact ⟨rfl, hb⟩
end Go.Proofs.YtpkkjoiglemlgaaGreatDoor
