/-
  The walks over the laws of the heap: the examples; the lock. No condition.
-/
import Derived.Test.YtdmdkelmmlinlaaSess
namespace Go.Proofs.Ytdmdkelmmlinlaa
set_option linter.unusedVariables false
open Go.ChangeShapes Go.WideShapes Go.ChangeAt Go.RowKit
open Go.ChangeMaps (setBlock)
set_option maxRecDepth 100000 in
set_option maxHeartbeats 1000000 in
theorem awake17 (w : World) : Calls Try.prog 10 #[] w fun e w' => e = .returned (.bool true) ∧ Below w.heap.size w w' := by
  go_enter Try.func10, Try.ntmps10
  go_wp2_with fail
  refine (new_sess _).mono ?_; rintro e w1 ⟨hb, rfl, s⟩
  go_wp2_with fail
  refine (make_sess s 2 (by omega) _ (by decide)).mono ?_; rintro e w2 ⟨rfl, r, s⟩
  replace s : Sess w hb ⟨[⟨1, r, [0, 0], ⟨#[116]⟩⟩], 1, false, 0⟩ w2 := s
  go_wp2_with fail
  refine (s.still fun F h => words_hit h (b := 1) rfl).mono ?_; rintro e w3 ⟨rfl, s⟩
  go_wp2_with fail
  refine (s.of fun F h => drop_hit h (b := 1) rfl).mono ?_; rintro e w4 ⟨rfl, s⟩
  replace s : Sess w hb ⟨[], 1, false, 0⟩ w4 := s
  go_wp2_with fail
  refine (s.of fun F h => load_bad h (b := 1) (i := 0) (by decide) (by decide) (by decide)).mono ?_; rintro e w5 ⟨rfl, s⟩
  go_wp2_with fail
  refine (s.of fun F h => load_bad h (b := 2) (i := 0) (by decide) (by decide) (by decide)).mono ?_; rintro e w6 ⟨rfl, s⟩
  go_wp2_with fail
  refine (s.of fun F h => lock_free h rfl).mono ?_; rintro e w7 ⟨rfl, s⟩
  go_wp2_with fail
  refine (s.same fun F h => lock_taken h rfl).mono ?_; rintro e w8 ⟨rfl, rfl⟩
  go_wp2_with fail
  refine (s.of fun F h => unlock_taken h rfl).mono ?_; rintro e w8 ⟨rfl, s⟩
  go_wp2_with fail
  refine (s.same fun F h => faults_any h).mono ?_; rintro e w9 ⟨rfl, rfl⟩
  go_wp2_with fail
  refine (load_nil _ _ _).mono ?_; rintro e w9 ⟨rfl, hb9⟩
  have s := s.keep hb9
  go_wp2_with fail
  refine (s.of fun F h => unlock_free h rfl (by decide)).mono ?_; rintro e w10 ⟨rfl, s⟩
  go_wp2_with fail
  refine (s.same fun F h => faults_any h).mono ?_; rintro e w11 ⟨rfl, rfl⟩
  go_wp2_with fail
  refine (make_nil _ _ _).mono ?_; rintro e w11 ⟨rfl, rfl⟩
  go_wp2_with fail
  refine (copy_nil _).mono ?_; rintro e w11 ⟨rfl, rfl⟩
  go_wp2_with fail
  refine (lock_nil _).mono ?_; rintro e w11 ⟨rfl, rfl⟩
  go_wp2_with fail
  go_ret
  exact ⟨rfl, s.below⟩

/-- A row of bools that came in. -/
def lockSt (taken : Bool) (f : Nat) : PHeap := ⟨[], 0, taken, f⟩
set_option maxRecDepth 100000 in
set_option maxHeartbeats 1000000 in
theorem walkLocks (A : Option Addr) (len cap : Nat) (bs : List Bool) (hlen : bs.length = len) (w : World) (hr : Reads w w.heap.size 1 A len (bs.map Value.bool)) :
    Calls Try.prog 3 #[.slice A len cap] w fun e w' => e = .returned (.bool true) ∧ Below w.heap.size w w' := by
  by_cases hbig : 200 < len
  · go_enter Try.func3, Try.ntmps3
    go_wp2_with fail
    refine (awake17 _).mono ?_; rintro e w7 ⟨rfl, hb7⟩
    go_wp2_with fail
    go_ret
    exact ⟨rfl, hb7⟩
  · go_enter Try.func3, Try.ntmps3
    go_wp2_with fail
    refine (new_sess _).mono ?_; rintro e w1 ⟨hb, rfl, s⟩
    go_wp2_with fail
    go_loopw [4, 5, 6] (fun tk n i wr => ∃ (k : Nat) (t : Bool) (f : Nat), k ≤ len ∧ f ≤ k ∧ i = .int .i64 k ∧ tk = .bool t ∧ n = .int .i64 f ∧ Sess w hb (lockSt t f) wr) (fun _ _ i _ => len - (intOf i).toNat)
    case atStart => exact ⟨0, false, 0, Nat.zero_le _, Nat.le_refl _, rfl, rfl, rfl, s⟩
    case round =>
      obtain ⟨k, t, f, hk, hf, rfl, rfl, rfl, s⟩ := hrel
      by_cases hlt : k < len
      · obtain ⟨ad, u, rfl, hadb, hu, hcell⟩ := hr.at_ hlt
        have hcell' := keepc s.below hadb hcell
        obtain ⟨z, hz1, rfl⟩ : ∃ z, bs[k]? = some z ∧ Value.bool z = u := by simpa using hu
        clear hz1 hu hcell
        cases z <;> cases t
        · go_wp2_with fail
          refine (s.of fun F h => unlock_free h rfl (by show (f : Int) < _; omega)).mono ?_; rintro e w3 ⟨rfl, s⟩
          replace s : Sess w hb (lockSt false (f + 1)) w3 := by simpa [lockSt, PHeap.fault] using s
          go_wp2_with fail
          refine (s.same fun F h => locked_any h).mono ?_; rintro e w4 ⟨rfl, rfl⟩
          go_wp2_with fail
          refine (copy_sess s rfl).mono ?_; rintro e w5 ⟨c, rfl, s5, hc5⟩
          go_wp2_with fail
          refine (s5.same fun F h => locked_any h).mono ?_; rintro e w6 ⟨rfl, rfl⟩
          go_wp2_with fail
          go_roundw
          case rel => exact ⟨k + 1, false, f + 1, by omega, by omega, by go_num, rfl, by go_num, s.keep hc5⟩
          case measure => simp [intOf]; omega
        · go_wp2_with fail
          refine (s.of fun F h => unlock_taken h rfl).mono ?_; rintro e w3 ⟨rfl, s⟩
          replace s : Sess w hb (lockSt false f) w3 := s
          go_wp2_with fail
          refine (s.same fun F h => locked_any h).mono ?_; rintro e w4 ⟨rfl, rfl⟩
          go_wp2_with fail
          refine (copy_sess s rfl).mono ?_; rintro e w5 ⟨c, rfl, s5, hc5⟩
          go_wp2_with fail
          refine (s5.same fun F h => locked_any h).mono ?_; rintro e w6 ⟨rfl, rfl⟩
          go_wp2_with fail
          go_roundw
          case rel => exact ⟨k + 1, false, f, by omega, by omega, by go_num, rfl, rfl, s.keep hc5⟩
          case measure => simp [intOf]; omega
        · go_wp2_with fail
          refine (s.of fun F h => lock_free h rfl).mono ?_; rintro e w3 ⟨rfl, s⟩
          replace s : Sess w hb (lockSt true f) w3 := s
          go_wp2_with fail
          refine (s.same fun F h => locked_any h).mono ?_; rintro e w4 ⟨rfl, rfl⟩
          go_wp2_with fail
          refine (copy_sess s rfl).mono ?_; rintro e w5 ⟨c, rfl, s5, hc5⟩
          go_wp2_with fail
          refine (s5.same fun F h => locked_any h).mono ?_; rintro e w6 ⟨rfl, rfl⟩
          go_wp2_with fail
          go_roundw
          case rel => exact ⟨k + 1, true, f, by omega, by omega, by go_num, rfl, rfl, s.keep hc5⟩
          case measure => simp [intOf]; omega
        · go_wp2_with fail
          refine (s.same fun F h => lock_taken h rfl).mono ?_; rintro e w3 ⟨rfl, rfl⟩
          go_wp2_with fail
          refine (s.same fun F h => locked_any h).mono ?_; rintro e w4 ⟨rfl, rfl⟩
          go_wp2_with fail
          refine (copy_sess s rfl).mono ?_; rintro e w5 ⟨c, rfl, s5, hc5⟩
          go_wp2_with fail
          refine (s5.same fun F h => locked_any h).mono ?_; rintro e w6 ⟨rfl, rfl⟩
          go_wp2_with fail
          go_roundw
          case rel => exact ⟨k + 1, true, f, by omega, by omega, by go_num, rfl, rfl, s.keep hc5⟩
          case measure => simp [intOf]; omega
      · go_wp2_with fail
        refine (s.same fun F h => faults_any h).mono ?_; rintro e w4 ⟨rfl, rfl⟩
        go_wp2_with fail
        refine (s.still fun F h => blocks_empty h rfl).mono ?_; rintro e w5 ⟨rfl, s⟩
        go_wp2_with fail
        refine (awake17 _).mono ?_; rintro e w7 ⟨rfl, hb7⟩
        go_wp2_with fail
        go_ret
        exact ⟨rfl, Below.next_ s.below hb7⟩
end Go.Proofs.Ytdmdkelmmlinlaa
