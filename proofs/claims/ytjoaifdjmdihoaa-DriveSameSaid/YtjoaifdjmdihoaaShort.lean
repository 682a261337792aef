/-
  A row of acts in memory, and whether it is short (layer 19). No condition.
-/
import Derived.Test.YtjoaifdjmdihoaaDrive
namespace Go.Proofs.Ytjoaifdjmdihoaa
set_option linter.unusedVariables false
open Go.ChangeShapes Go.WideShapes Go.ChangeAt Go.RowKit
open Go.ChangeMaps (setBlock)

def act19L (l : List PAct) : List Value := l.flatMap fun x => [.int .i64 x.kind, .int .u64 x.block, .int .i64 x.cell, .int .u64 x.old, .int .u64 x.new, .string x.text]
theorem act19_at {w : World} {B n : Nat} {A : Option Addr} {l : List PAct} (h : Reads w B 6 A n (act19L l)) (hn : l.length = n) {k : Nat} (hk : k < n) :
    ∃ ad x, A = some ad ∧ ad.block < B ∧ l[k]? = some x ∧ ∀ W, Below B w W → (W.cell? (ad.add (k * 6)) = some (.int .i64 x.kind) ∧ W.cell? ⟨(ad.add (k * 6)).block, (ad.add (k * 6)).off + 1, none⟩ = some (.int .u64 x.block) ∧ W.cell? ⟨(ad.add (k * 6)).block, (ad.add (k * 6)).off + 2, none⟩ = some (.int .i64 x.cell) ∧
      W.cell? ⟨(ad.add (k * 6)).block, (ad.add (k * 6)).off + 3, none⟩ = some (.int .u64 x.old) ∧ W.cell? ⟨(ad.add (k * 6)).block, (ad.add (k * 6)).off + 4, none⟩ = some (.int .u64 x.new) ∧ W.cell? ⟨(ad.add (k * 6)).block, (ad.add (k * 6)).off + 5, none⟩ = some (.string x.text)) := by
  obtain ⟨ad, x, e, hb, hx, hc⟩ := Reads.fld (mk := fun x : PAct => [.int .i64 x.kind, .int .u64 x.block, .int .i64 x.cell, .int .u64 x.old, .int .u64 x.new, .string x.text]) (fun _ => rfl) h hk hn
  refine ⟨ad, x, e, hb, hx, fun W hW => ?_⟩
  have g0 : W.cell? (ad.add (k * 6)) = some (.int .i64 x.kind) := by
    have := hc 0 (.int .i64 x.kind) rfl
    rw [Nat.add_zero] at this
    exact keepc hW hb this
  have g : ∀ j v, [.int .i64 x.kind, .int .u64 x.block, .int .i64 x.cell, .int .u64 x.old, .int .u64 x.new, .string x.text][j]? = some v → 0 < j → W.cell? ⟨(ad.add (k * 6)).block, (ad.add (k * 6)).off + j, none⟩ = some v := by
    intro j v hv hj
    have e1 : (⟨(ad.add (k * 6)).block, (ad.add (k * 6)).off + j, none⟩ : Addr) = (ad.add (k * 6)).add j := by
      cases j with
      | zero => omega
      | succ j => rfl
    rw [e1, add_of_add]
    exact keepc hW hb (hc j v hv)
  exact ⟨g0, g 1 _ rfl (by omega), g 2 _ rfl (by omega), g 3 _ rfl (by omega), g 4 _ rfl (by omega), g 5 _ rfl (by omega)⟩
set_option maxRecDepth 100000 in
set_option maxHeartbeats 2000000 in
theorem short_any (A : Option Addr) (len cap : Nat) (l : List PAct) (hlen : l.length = len) (hmax : len ≤ maxLen) (w : World) (hr : Reads w w.heap.size 6 A len (act19L l)) :
    Calls Try.prog 19 #[.slice A len cap] w fun e w' => ∃ fb : Bool, e = .returned (.bool fb) ∧ (fb = true → (len : Int) ≤ 60) ∧ w = w' := by
  have hmax' : len ≤ 9223372036854775807 := by unfold maxLen at hmax; omega
  have done : ∀ e : Ending, ∀ w', e = .returned (.bool (decide ((len : Int) ≤ 60))) → w = w' → ∃ fb : Bool, e = .returned (.bool fb) ∧ (fb = true → (len : Int) ≤ 60) ∧ w = w' := fun e w' h1 h2 => ⟨_, h1, fun h => of_decide_eq_true h, h2⟩
  replace done := Lib.hid done
  go_enter Try.func19, Try.ntmps19
  go_wp2_with fail
  go_loopw [3] (fun i wr => wr = w ∧ ∃ k : Nat, k ≤ len ∧ i = .int .i64 k) (fun i _ => len + 1 - (intOf i).toNat)
  case atStart => exact ⟨rfl, 0, by omega, rfl⟩
  case round =>
    obtain ⟨rfl, k, hk, rfl⟩ := hrel
    by_cases hlt : k < len
    · have d1 : decide ((k : Int) < (len : Int)) = true := by simp; omega
      by_cases h80 : k < 80
      · have d2 : decide ((k : Int) < 80) = true := by simp; omega
        obtain ⟨ad, x, rfl, hb, hx, hc⟩ := act19_at hr hlen hlt
        obtain ⟨_, _, _, _, _, c5⟩ := hc _ (Below.refl _ _)
        have i1 : (0 : Int) ≤ (k : Int) := by omega
        have i2 : (k : Int) < (len : Int) := by omega
        clear hc
        generalize hsz : x.text.size = sz at *
        by_cases h2 : 200 < sz
        · have d3 : decide ((200 : Int) < (sz : Int)) = true := by simp; omega
          go_wp2_with fail
          go_ret
          exact ⟨false, rfl, (fun h => by cases h), rfl⟩
        · have d3 : decide ((200 : Int) < (sz : Int)) = false := by simp; omega
          go_wp2_with fail
          go_roundw
          case rel => exact ⟨trivial, k + 1, by omega, by go_num⟩
          case measure => simp [intOf]; omega
      · have d2 : decide ((k : Int) < 80) = false := by simp; omega
        go_wp2_with fail
        go_ret
        exact done.out _ _ rfl rfl
    · have d1 : decide ((k : Int) < (len : Int)) = false := by simp; omega
      go_wp2_with fail
      go_ret
      exact done.out _ _ rfl rfl
end Go.Proofs.Ytjoaifdjmdihoaa
