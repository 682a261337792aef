/-
  A row of acts in memory, and whether they are few (layer 18). No condition.
-/
import Derived.Test.YtjoaifdjmdihoaaDoorActA
namespace Go.Proofs.YtjoaifdjmdihoaaDoor
set_option linter.unusedVariables false
open Go.ChangeShapes Go.WideShapes Go.ChangeAt Go.RowKit
open Go.ChangeMaps (setBlock)

def actL (l : List PAct) : List Value := l.flatMap fun x => [.int .i64 x.kind, .int .u64 x.block, .int .i64 x.cell, .int .u64 x.old, .int .u64 x.new, .string x.text]
theorem act6_at {w : World} {B n : Nat} {A : Option Addr} {l : List PAct} (h : Reads w B 6 A n (actL l)) (hn : l.length = n) {k : Nat} (hk : k < n) :
    ∃ ad x, A = some ad ∧ ad.block < B ∧ l[k]? = some x ∧ ∀ W, Below B w W → (W.cell? (ad.add (k * 6)) = some (.int .i64 x.kind) ∧ W.cell? ⟨(ad.add (k * 6)).block, (ad.add (k * 6)).off + 1, none⟩ = some (.int .u64 x.block) ∧ W.cell? ⟨(ad.add (k * 6)).block, (ad.add (k * 6)).off + 2, none⟩ = some (.int .i64 x.cell) ∧
      W.cell? ⟨(ad.add (k * 6)).block, (ad.add (k * 6)).off + 3, none⟩ = some (.int .u64 x.old) ∧ W.cell? ⟨(ad.add (k * 6)).block, (ad.add (k * 6)).off + 4, none⟩ = some (.int .u64 x.new) ∧ W.cell? ⟨(ad.add (k * 6)).block, (ad.add (k * 6)).off + 5, none⟩ = some (.string x.text)) := by
  obtain ⟨ad, x, e, hb, hx, hc⟩ := Reads.fld (mk := fun x : PAct => [.int .i64 x.kind, .int .u64 x.block, .int .i64 x.cell, .int .u64 x.old, .int .u64 x.new, .string x.text]) (fun _ => rfl) h hk hn
  refine ⟨ad, x, e, hb, hx, fun W hW => ?_⟩
  have g0 : W.cell? (ad.add (k * 6)) = some (.int .i64 x.kind) := by
    have := hc 0 (.int .i64 x.kind) rfl
    rw [Nat.add_zero] at this
    exact keepc hW hb this
  have g : ∀ j v, [.int .i64 x.kind, .int .u64 x.block, .int .i64 x.cell, .int .u64 x.old, .int .u64 x.new, .string x.text][j]? = some v → 0 < j → W.cell? ⟨(ad.add (k * 6)).block, (ad.add (k * 6)).off + j, none⟩ = some v := by
    intro j v hv hj
    have e1 : (⟨(ad.add (k * 6)).block, (ad.add (k * 6)).off + j, none⟩ : Addr) = (ad.add (k * 6)).add j := by
      cases j with
      | zero => omega
      | succ j => rfl
    rw [e1, add_of_add]
    exact keepc hW hb (hc j v hv)
  exact ⟨g0, g 1 _ rfl (by omega), g 2 _ rfl (by omega), g 3 _ rfl (by omega), g 4 _ rfl (by omega), g 5 _ rfl (by omega)⟩
set_option maxRecDepth 100000 in
set_option maxHeartbeats 2000000 in
theorem few18_any (A : Option Addr) (len cap : Nat) (l : List PAct) (hlen : l.length = len) (hmax : len ≤ maxLen) (most : Int) (w : World) (hr : Reads w w.heap.size 6 A len (actL l)) :
    Calls Tryd.prog 6 #[.slice A len cap, .int .i64 most] w fun e w' => ∃ fb : Bool, e = .returned (.bool fb) ∧ (fb = true → (len : Int) ≤ most) ∧ w = w' := by
  have hmax' : len ≤ 9223372036854775807 := by unfold maxLen at hmax; omega
  have done : ∀ e : Ending, ∀ w', e = .returned (.bool (decide ((len : Int) ≤ most))) → w = w' → ∃ fb : Bool, e = .returned (.bool fb) ∧ (fb = true → (len : Int) ≤ most) ∧ w = w' := fun e w' h1 h2 => ⟨_, h1, fun h => of_decide_eq_true h, h2⟩
  replace done := Lib.hid done
  go_enter Tryd.func6, Tryd.ntmps6
  go_wp2_with fail
  go_loopw [5] (fun i wr => wr = w ∧ ∃ k : Nat, k ≤ len ∧ i = .int .i64 k) (fun i _ => len + 1 - (intOf i).toNat)
  case atStart => exact ⟨rfl, 0, by omega, rfl⟩
  case round =>
    obtain ⟨rfl, k, hk, rfl⟩ := hrel
    by_cases hlt : k < len
    · have d1 : decide ((k : Int) < (len : Int)) = true := by simp; omega
      by_cases h200 : k < 150
      · have d2 : decide ((k : Int) < 150) = true := by simp; omega
        obtain ⟨ad, x, rfl, hb, hx, hc⟩ := act6_at hr hlen hlt
        obtain ⟨_, _, _, _, _, c5⟩ := hc _ (Below.refl _ _)
        have i1 : (0 : Int) ≤ (k : Int) := by omega
        have i2 : (k : Int) < (len : Int) := by omega
        clear hc
        have hcs : (200 < x.text.size ∧ x.text.size ≤ 4096) ∨ (4200 < x.text.size) ∨ (4096 < x.text.size ∧ x.text.size ≤ 4200) ∨ (x.text.size ≤ 200) := by omega
        generalize hsz : x.text.size = sz at *
        rcases hcs with ⟨h1, h2⟩ | h1 | ⟨h1, h2⟩ | h1
        · have d3 : decide ((200 : Int) < (sz : Int)) = true := by simp; omega
          have d4 : decide ((sz : Int) ≤ 4096) = true := by simp; omega
          go_wp2_with fail
          go_ret
          exact ⟨false, rfl, (fun h => by cases h), rfl⟩
        · have d3 : decide ((200 : Int) < (sz : Int)) = true := by simp; omega
          have d4 : decide ((sz : Int) ≤ 4096) = false := by simp; omega
          have d5 : decide ((4200 : Int) < (sz : Int)) = true := by simp; omega
          go_wp2_with fail
          go_ret
          exact ⟨false, rfl, (fun h => by cases h), rfl⟩
        · have d3 : decide ((200 : Int) < (sz : Int)) = true := by simp; omega
          have d4 : decide ((sz : Int) ≤ 4096) = false := by simp; omega
          have d5 : decide ((4200 : Int) < (sz : Int)) = false := by simp; omega
          go_wp2_with fail
          go_roundw
          case rel => exact ⟨trivial, k + 1, by omega, by go_num⟩
          case measure => simp [intOf]; omega
        · have d3 : decide ((200 : Int) < (sz : Int)) = false := by simp; omega
          have d5 : decide ((4200 : Int) < (sz : Int)) = false := by simp; omega
          go_wp2_with fail
          go_roundw
          case rel => exact ⟨trivial, k + 1, by omega, by go_num⟩
          case measure => simp [intOf]; omega
      · have d2 : decide ((k : Int) < 150) = false := by simp; omega
        go_wp2_with fail
        go_ret
        exact done.out _ _ rfl rfl
    · have d1 : decide ((k : Int) < (len : Int)) = false := by simp; omega
      go_wp2_with fail
      go_ret
      exact done.out _ _ rfl rfl
end Go.Proofs.YtjoaifdjmdihoaaDoor
