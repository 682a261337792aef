/-
  Package fail: New, At, Code; septet.wrong. No condition.
-/
import Derived.Test.YtpkkjoiglemlgaaGreatDoorErr
namespace Go.Proofs.YtpkkjoiglemlgaaGreatDoor
set_option linter.unusedVariables false
open Go.RowKit Go.Extern.Stop Go.Stop Go.Extern

/-- A code's error, as a value. -/
def newV (sv : Nat → Addr) (c : Int) : Value := if c = 0 then .nilIface else .iface 242 (.pointer (some (sv (sIdx c))))
set_option maxHeartbeats 1000000 in
theorem later_any {w : World} {sv : Nat → Addr} (S : Sent w sv) (c : Int) (hc : c < 1 ∨ 6 < c) :
    Calls Tryz.prog 68 #[.int .i64 c] w fun e w' => e = .returned (.iface 242 (.pointer (some (sv (sIdx c))))) ∧ w = w' := by
  have g6 : w.cell? ⟨9, 0, none⟩ = some (.iface 242 (.pointer (some (sv 6)))) := S.var 6 (by decide)
  have g7 : w.cell? ⟨7, 0, none⟩ = some (.iface 242 (.pointer (some (sv 7)))) := S.var 7 (by decide)
  have g8 : w.cell? ⟨0, 0, none⟩ = some (.iface 242 (.pointer (some (sv 8)))) := S.var 8 (by decide)
  have g9 : w.cell? ⟨10, 0, none⟩ = some (.iface 242 (.pointer (some (sv 9)))) := S.var 9 (by decide)
  have g10 : w.cell? ⟨11, 0, none⟩ = some (.iface 242 (.pointer (some (sv 10)))) := S.var 10 (by decide)
  have g11 : w.cell? ⟨12, 0, none⟩ = some (.iface 242 (.pointer (some (sv 11)))) := S.var 11 (by decide)
  have g12 : w.cell? ⟨13, 0, none⟩ = some (.iface 242 (.pointer (some (sv 12)))) := S.var 12 (by decide)
  have g13 : w.cell? ⟨14, 0, none⟩ = some (.iface 242 (.pointer (some (sv 13)))) := S.var 13 (by decide)
  have g14 : w.cell? ⟨15, 0, none⟩ = some (.iface 242 (.pointer (some (sv 14)))) := S.var 14 (by decide)
  have g15 : w.cell? ⟨16, 0, none⟩ = some (.iface 242 (.pointer (some (sv 15)))) := S.var 15 (by decide)
  have g16 : w.cell? ⟨17, 0, none⟩ = some (.iface 242 (.pointer (some (sv 16)))) := S.var 16 (by decide)
  have g17 : w.cell? ⟨18, 0, none⟩ = some (.iface 242 (.pointer (some (sv 17)))) := S.var 17 (by decide)
  have g18 : w.cell? ⟨19, 0, none⟩ = some (.iface 242 (.pointer (some (sv 18)))) := S.var 18 (by decide)
  have hcase : c = 7 ∨ c = 8 ∨ c = 9 ∨ c = 10 ∨ c = 11 ∨ c = 12 ∨ c = 13 ∨ c = 14 ∨ c = 15 ∨ c = 16 ∨ c = 17 ∨ c = 18 ∨ (c < 1 ∨ 18 < c) := by omega
  rcases hcase with rfl | rfl | rfl | rfl | rfl | rfl | rfl | rfl | rfl | rfl | rfl | rfl | h
  all_goals clear hc
  case inr =>
    have hs : sIdx c = 18 := by unfold sIdx; rw [if_neg (by omega)]
    rw [hs]
    rcases h with h | h
    all_goals
      go_enter Tryz.func68, Tryz.ntmps68
      go_wp2
      go_ret
      exact ⟨rfl, rfl⟩
  all_goals
    go_enter Tryz.func68, Tryz.ntmps68
    go_wp2
    go_ret
    exact ⟨rfl, rfl⟩
set_option maxHeartbeats 1000000 in
theorem new_any {w : World} {sv : Nat → Addr} (S : Sent w sv) (c : Int) :
    Calls Tryz.prog 40 #[.int .i64 c] w fun e w' => e = .returned (newV sv c) ∧ w = w' := by
  have g0 : w.cell? ⟨1, 0, none⟩ = some (.iface 242 (.pointer (some (sv 0)))) := S.var 0 (by decide)
  have g1 : w.cell? ⟨2, 0, none⟩ = some (.iface 242 (.pointer (some (sv 1)))) := S.var 1 (by decide)
  have g2 : w.cell? ⟨3, 0, none⟩ = some (.iface 242 (.pointer (some (sv 2)))) := S.var 2 (by decide)
  have g3 : w.cell? ⟨4, 0, none⟩ = some (.iface 242 (.pointer (some (sv 3)))) := S.var 3 (by decide)
  have g4 : w.cell? ⟨5, 0, none⟩ = some (.iface 242 (.pointer (some (sv 4)))) := S.var 4 (by decide)
  have g5 : w.cell? ⟨6, 0, none⟩ = some (.iface 242 (.pointer (some (sv 5)))) := S.var 5 (by decide)
  have hcase : c = 0 ∨ c = 1 ∨ c = 2 ∨ c = 3 ∨ c = 4 ∨ c = 5 ∨ c = 6 ∨ (c < 0 ∨ 6 < c) := by omega
  rcases hcase with rfl | rfl | rfl | rfl | rfl | rfl | rfl | h
  case inr.inr.inr.inr.inr.inr.inr =>
    have hn : newV sv c = .iface 242 (.pointer (some (sv (sIdx c)))) := by unfold newV; rw [if_neg (by omega)]
    rw [hn]
    have L := later_any S c (by omega)
    have L := Lib.hid L
    clear S
    rcases h with h | h
    all_goals
      go_enter Tryz.func40, Tryz.ntmps40
      go_wp2_with fail
      refine (L.out).mono ?_; rintro e w1 ⟨rfl, rfl⟩
      go_wp2_with fail
      go_ret
      exact ⟨rfl, rfl⟩
  all_goals
    clear S
    go_enter Tryz.func40, Tryz.ntmps40
    go_wp2
    go_ret
    exact ⟨rfl, rfl⟩

theorem at_nil (w : World) (p : Int) : Calls Tryz.prog 39 #[.int .i64 p, .nilIface] w fun e w' => e = .returned .nilIface ∧ w = w' := by
  go_enter Tryz.func39, Tryz.ntmps39
  go_wp2
  go_ret
  exact ⟨rfl, rfl⟩
theorem at_any {w : World} {sv : Nat → Addr} (p : Int) (v : Value) (ps : List Int) (i : Nat) (h : ErrIs w sv v ps i) :
    Calls Tryz.prog 39 #[.int .i64 p, v] w fun e w' => ∃ v', e = .returned v' ∧ ErrIs w' sv v' (p :: ps) i ∧ Below w.heap.size w w' := by
  obtain ⟨t, u, rfl⟩ := h.iface
  have h := Lib.hid h
  go_enter Tryz.func39, Tryz.ntmps39
  go_wp2
  go_ret
  refine ⟨_, rfl, ErrIs.wrap _ _ _ _ _ (Blk.new _ _ _) (ErrIs.under ?_ h.out), ?_⟩
  · (repeat first | exact Below.refl _ _ | assumption | refine Below.drew ?_ | refine below_drewN ?_ _ | refine Below.more_ ?_ _ | refine Below.setCell ?_ (by first | exact Nat.le_refl _ | (simp; done) | (simp; omega)) _)
  · (repeat first | exact Below.refl _ _ | assumption | refine Below.drew ?_ | refine below_drewN ?_ _ | refine Below.more_ ?_ _ | refine Below.setCell ?_ (by first | exact Nat.le_refl _ | (simp; done) | (simp; omega)) _)

/-- The code of the sentinel at a place. -/
def sCode (i : Nat) : Int := if i < 18 then i + 1 else 99
theorem code_nil (w : World) : Calls Tryz.prog 26 #[.nilIface] w fun e w' => e = .returned (.int .i64 0) ∧ w = w' := by
  go_enter Tryz.func26, Tryz.ntmps26
  go_wp2
  go_ret
  exact ⟨rfl, rfl⟩
theorem newV_mid (sv : Nat → Addr) (k : Nat) (hk : k < 18) : newV sv ((k : Int) + 1) = .iface 242 (.pointer (some (sv k))) := by
  unfold newV sIdx
  rw [if_neg (by omega), if_pos (by omega)]
  congr 3
  congr 1
  omega
theorem code_any {w : World} {sv : Nat → Addr} (S : Sent w sv) (v : Value) (ps : List Int) (i : Nat) (hv : ErrIs w sv v ps i) :
    Calls Tryz.prog 26 #[v] w fun e w' => e = .returned (.int .i64 (sCode i)) ∧ w = w' := by
  obtain ⟨t, u, rfl⟩ := hv.iface
  have hi := hv.lt
  have hv := Lib.hid hv
  have S := Lib.hid S
  go_enter Tryz.func26, Tryz.ntmps26
  go_wp2_with fail
  go_loopw [3] (fun c wr => wr = w ∧ ∃ k : Nat, k ≤ 18 ∧ k ≤ i ∧ c = .int .i64 ((k : Int) + 1)) (fun c _ => 20 - (intOf c).toNat)
  case atStart => exact ⟨rfl, 0, by omega, by omega, rfl⟩
  case round =>
    obtain ⟨rfl, k, hk, hki, rfl⟩ := hrel
    by_cases hlt : k < 18
    · have hn := newV_mid sv k hlt
      go_wp2_with fail
      refine (new_any S.out _).mono ?_; rintro e w1 ⟨rfl, rfl⟩
      rw [hn]
      go_wp2_with fail
      refine (is_any S.out _ ps i k (by omega) hv.out).mono ?_; rintro e w1 ⟨rfl, rfl⟩
      by_cases hik : i = k
      · subst hik
        go_wp2_with fail
        go_ret
        exact ⟨by rw [sCode, if_pos hlt]; rfl, rfl⟩
      · go_wp2_with fail
        go_roundw
        case rel => exact ⟨trivial, k + 1, by omega, by omega, by go_num⟩
        case measure => simp [intOf]; omega
    · have hk18 : k = 18 := by omega
      subst hk18
      go_wp2_with fail
      go_ret
      exact ⟨by rw [sCode, if_neg (by omega)]; rfl, rfl⟩

theorem wrong_any {w : World} {sv : Nat → Addr} (S : Sent w sv) (p c : Int) (hc : c ≠ 0) :
    Calls Tryz.prog 73 #[.int .i64 p, .int .i64 c] w fun e w' => ∃ v', e = .returned v' ∧ ErrIs w' sv v' [p] (sIdx c) ∧ Below w.heap.size w w' := by
  have hn : newV sv c = .iface 242 (.pointer (some (sv (sIdx c)))) := by unfold newV; rw [if_neg hc]
  have S := Lib.hid S
  clear hc
  go_enter Tryz.func73, Tryz.ntmps73
  go_wp2_with fail
  refine (new_any S.out _).mono ?_; rintro e w1 ⟨rfl, rfl⟩
  rw [hn]
  go_wp2_with fail
  refine (at_any p _ [] (sIdx c) (ErrIs.leaf _ (sIdx_lt c))).mono ?_; rintro e w1 ⟨v', rfl, h, hb⟩
  go_wp2_with fail
  go_ret
  exact ⟨v', rfl, h, hb⟩
end Go.Proofs.YtpkkjoiglemlgaaGreatDoor
