/-
  The text of an act, as the program and as the document print it (layer 18), where the table of powers lies. No condition.
-/
import Derived.Test.YtmifgjkikbgmiaaDoorActW
import Derived.Test.YtmifgjkikbgmiaaDoorFmt
import Derived.Test.YtmifgjkikbgmiaaDoorQuote2
import Derived.Test.YtmifgjkikbgmiaaDoorDrive
namespace Go.Proofs.YtmifgjkikbgmiaaDoor
set_option linter.unusedVariables false
open Go.ChangeShapes Go.WideShapes Go.ChangeAt Go.RowKit
open Go.ChangeMaps (setBlock)

theorem dec_20 {n : Nat} (h : n < 18446744073709551616) : (Lib.decDigits n).length ≤ 20 := by rw [Lib.decDigits_length]; exact Lib.nDigits_le20 n h
set_option maxRecDepth 100000 in
set_option maxHeartbeats 1000000 in
theorem actName_any (k : Nat) (hk : k ≤ 10) (w : World) : Calls Tryd.prog 13 #[.int .i64 k] w fun e w' => e = .returned (.string (bs (actName k))) ∧ Below w.heap.size w w' := by
  have h : k = 0 ∨ k = 1 ∨ k = 2 ∨ k = 3 ∨ k = 4 ∨ k = 5 ∨ k = 6 ∨ k = 7 ∨ k = 8 ∨ k = 9 ∨ k = 10 := by omega
  rcases h with rfl | rfl | rfl | rfl | rfl | rfl | rfl | rfl | rfl | rfl | rfl
  all_goals
    go_enter Tryd.func13, Tryd.ntmps13
    go_wp2_with fail
    go_ret
    refine ⟨rfl, ?_⟩
    (repeat first | exact Below.refl _ _ | assumption | refine Below.drew ?_ | refine below_drewN ?_ _ | refine Below.more_ ?_ _ | refine Below.setCell ?_ (by first | exact Nat.le_refl _ | (simp; done) | (simp; omega)) _)
set_option maxRecDepth 100000 in
set_option maxHeartbeats 1000000 in
theorem putA_any (cb : Nat) (acc : List UInt8) (n : Nat) (hn : n < 18446744073709551616) (hl : acc.length ≤ 100000) (w : World) (htab : PTb w) (hB : Blk w cb 9 #[.string (bs acc)]) :
    Calls Tryd.prog 14 #[.int .u64 n, .pointer (some ⟨cb, 0, none⟩)] w fun e w' => e = .returned (.tuple #[]) ∧ Blk w' cb 9 #[.string (bs (acc ++ 32 :: Lib.decDigits n))] ∧ Chg (fun k => k = cb) w w' := by
  have hlen := dec_20 hn
  have c0 := hB.cell 0
  have f0 := hB.frozen 0
  have hlt := hB.lt
  have hF := fun W (h : Below w.heap.size w W) => fmtUint_any (htab.below h) n hn
  have ha1 : ∀ W, (Op.stringOp .add ⟨#[32]⟩ (bs (Lib.decDigits n))).run Tryd.prog W = .ok (.string (bs (32 :: Lib.decDigits n))) W := fun W => add_str W [32] (Lib.decDigits n) (by simp; omega)
  have ha2 := fun W => add_str W acc (32 :: Lib.decDigits n) (by simp; omega)
  rw [show strL (Lib.decDigits n) = .string (bs (Lib.decDigits n)) from rfl] at hF
  generalize acc ++ 32 :: Lib.decDigits n = T2 at *
  generalize (32 :: Lib.decDigits n) = T1 at *
  generalize Lib.decDigits n = ds at *
  replace hB := Lib.hid hB
  replace hF := Lib.hid hF
  clear htab
  go_enter Tryd.func14, Tryd.ntmps14
  go_wp2_with fail
  go_region_with (go_at_call 15; refine (hF.out _ (by (repeat first | exact Below.refl _ _ | assumption | refine Below.drew ?_ | refine below_drewN ?_ _ | refine Below.more_ ?_ _ | refine Below.setCell ?_ (by first | exact Nat.le_refl _ | (simp; done) | (simp; omega)) _))).mono ?_; rintro e w1 ⟨rfl, hb1⟩; have B1 := (hB.out.drew).below hb1 hlt; have c1 := B1.cell 0; have f1 := B1.frozen 0; have K1 : Chg (fun k => k = cb) w w1 := ((Chg.refl (fun k => k = cb) w).drew).next_ hb1; replace hb1 := Lib.hid hb1; replace B1 := Lib.hid B1; replace K1 := Lib.hid K1)
  all_goals
    go_wp2_with fail
    exact bodyPost_end (v := .tuple #[]) (results_none (by kernel_rfl) _ _ _) rfl ⟨rfl, by first | exact ((B1.out.set_ 0 _).eq_cs rfl) | exact ((B1.out.set_ 0 _).eq_cs rfl).drew, by first | exact K1.out.setCell (p := ⟨cb, 0, none⟩) (.inl rfl) _ | exact (K1.out.setCell (p := ⟨cb, 0, none⟩) (.inl rfl) _).drew⟩
end Go.Proofs.YtmifgjkikbgmiaaDoor
