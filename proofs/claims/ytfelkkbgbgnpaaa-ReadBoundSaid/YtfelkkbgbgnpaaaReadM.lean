/-
  The bound of a read's acts: the program's, the document's; a routine of the call's own goes alone on a heap of the call's own. No condition.
-/
import Derived.Test.YtfelkkbgbgnpaaaReadP
import Derived.Test.YtfelkkbgbgnpaaaFindL
namespace Go.Proofs.Ytfelkkbgbgnpaaa
set_option linter.unusedVariables false
open Go.ChangeShapes Go.WideShapes Go.ChangeAt Go.RowKit
open Go.ChangeMaps (setBlock)

def mostP (c : PCfg) (n : Int) : Int := if c.right then c.pins + 2 * c.shelves + 9 + 4 * n else 0
set_option maxHeartbeats 2000000 in
theorem readMost_any (c : PCfg) (n : Int) (hn : 0 ≤ n ∧ n ≤ 100000) (w : World) : Calls Try.prog 16 #[c.val, .int .i64 n] w fun e w' => e = .returned (.int .i64 (mostP c n)) ∧ Below w.heap.size w w' := by
  have hR := fun W => right_cfg c W
  have hri := PCfg.right_iff c
  unfold mostP
  have hp := fun h : c.Right => h.pins
  have hs := fun h : c.Right => h.shelves
  obtain ⟨a, b, s, q, t, z⟩ := c
  rw [show PCfg.val ⟨a, b, s, q, t, z⟩ = .agg #[.int .i64 a, .int .i64 b, .int .i64 s, .int .i64 q, .int .i64 t, .int .u64 z] from rfl] at *
  have B1 := Blk.new w 24 #[.int .i64 a, .int .i64 b, .int .i64 s, .int .i64 q, .int .i64 t, .int .u64 z]
  have hz : Below w.heap.size w (w.alloc (.cells #[.int .i64 a, .int .i64 b, .int .i64 s, .int .i64 q, .int .i64 t, .int .u64 z] 24)) := (Below.refl _ _).alloc (Nat.le_refl _) _
  simp only at hp hs ⊢
  generalize PCfg.right ⟨a, b, s, q, t, z⟩ = rt at *
  have hmx : max n 0 = n := by omega
  have hmx2 : max 0 n = n := by omega
  cases rt with
  | false =>
    simp only [Bool.false_eq_true, if_false]
    clear hp hs hri
    replace B1 := Lib.hid B1
    replace hz := Lib.hid hz
    replace hR := Lib.hid hR
    go_enter Try.func16, Try.ntmps16
    go_wp2_with fail
    refine (hR.out _).mono ?_; rintro e w1 ⟨rfl, hb⟩
    have hz1 := nx hz.out (Nat.le_refl _) hb
    clear hb
    replace hz1 := Lib.hid hz1
    go_wp2_with fail
    go_ret
    exact ⟨rfl, hz1.out⟩
  | true =>
    have h1 := hp (hri.1 rfl)
    have h2 := hs (hri.1 rfl)
    simp only [if_true]
    clear hp hs hri
    have e1 : IntKind.i64.wrap (1 + b) = 1 + b := IntWalk.i64_in _ (by omega)
    have e2 : IntKind.i64.wrap (1 + b + 2) = 1 + b + 2 := IntWalk.i64_in _ (by omega)
    have e3 : IntKind.i64.wrap (2 * s) = 2 * s := IntWalk.i64_in _ (by omega)
    have e4 : IntKind.i64.wrap (1 + b + 2 + 2 * s) = 1 + b + 2 + 2 * s := IntWalk.i64_in _ (by omega)
    have e5 : IntKind.i64.wrap (1 + b + 2 + 2 * s + 6) = 1 + b + 2 + 2 * s + 6 := IntWalk.i64_in _ (by omega)
    have e6 : IntKind.i64.wrap (4 * n) = 4 * n := IntWalk.i64_in _ (by omega)
    have e7 : IntKind.i64.wrap (1 + b + 2 + 2 * s + 6 + 4 * n) = 1 + b + 2 + 2 * s + 6 + 4 * n := IntWalk.i64_in _ (by omega)
    replace B1 := Lib.hid B1
    replace hz := Lib.hid hz
    replace hR := Lib.hid hR
    go_enter Try.func16, Try.ntmps16
    go_wp2_with fail
    refine (hR.out _).mono ?_; rintro e w1 ⟨rfl, hb⟩
    have hz1 := nx hz.out (Nat.le_refl _) hb
    have B2 := B1.out.below hb B1.out.lt
    have c1 := B2.cell 1
    have c2 := B2.cell 2
    have hs1 := B2.lt
    clear hb
    replace hz1 := Lib.hid hz1
    replace B2 := Lib.hid B2
    go_wp2_with fail
    all_goals
      go_ret
      exact ⟨ret_i (by omega), hz1.out⟩
set_option maxHeartbeats 2000000 in
theorem refMost_any (c : PCfg) (n : Int) (hn : 0 ≤ n ∧ n ≤ 100000) (w : World) : Calls Try.prog 20 #[c.val, .int .i64 n] w fun e w' => e = .returned (.int .i64 (mostP c n)) ∧ Below w.heap.size w w' := by
  have hR := fun W => refRight_any c W
  have hri := PCfg.right_iff c
  unfold mostP
  have hp := fun h : c.Right => h.pins
  have hs := fun h : c.Right => h.shelves
  obtain ⟨a, b, s, q, t, z⟩ := c
  rw [show PCfg.val ⟨a, b, s, q, t, z⟩ = .agg #[.int .i64 a, .int .i64 b, .int .i64 s, .int .i64 q, .int .i64 t, .int .u64 z] from rfl] at *
  have B1 := Blk.new w 24 #[.int .i64 a, .int .i64 b, .int .i64 s, .int .i64 q, .int .i64 t, .int .u64 z]
  have hz : Below w.heap.size w (w.alloc (.cells #[.int .i64 a, .int .i64 b, .int .i64 s, .int .i64 q, .int .i64 t, .int .u64 z] 24)) := (Below.refl _ _).alloc (Nat.le_refl _) _
  simp only at hp hs ⊢
  generalize PCfg.right ⟨a, b, s, q, t, z⟩ = rt at *
  have hmx : max n 0 = n := by omega
  have hmx2 : max 0 n = n := by omega
  cases rt with
  | false =>
    simp only [Bool.false_eq_true, if_false]
    clear hp hs hri
    replace B1 := Lib.hid B1
    replace hz := Lib.hid hz
    replace hR := Lib.hid hR
    go_enter Try.func20, Try.ntmps20
    go_wp2_with fail
    refine (hR.out _).mono ?_; rintro e w1 ⟨rfl, hb⟩
    have hz1 := nx hz.out (Nat.le_refl _) hb
    clear hb
    replace hz1 := Lib.hid hz1
    go_wp2_with fail
    go_ret
    exact ⟨rfl, hz1.out⟩
  | true =>
    have h1 := hp (hri.1 rfl)
    have h2 := hs (hri.1 rfl)
    simp only [if_true]
    clear hp hs hri
    have e3 : IntKind.i64.wrap (2 * s) = 2 * s := IntWalk.i64_in _ (by omega)
    have e4 : IntKind.i64.wrap (b + 2 * s) = b + 2 * s := IntWalk.i64_in _ (by omega)
    have e5 : IntKind.i64.wrap (b + 2 * s + 9) = b + 2 * s + 9 := IntWalk.i64_in _ (by omega)
    have e6 : IntKind.i64.wrap (4 * n) = 4 * n := IntWalk.i64_in _ (by omega)
    have e7 : IntKind.i64.wrap (b + 2 * s + 9 + 4 * n) = b + 2 * s + 9 + 4 * n := IntWalk.i64_in _ (by omega)
    replace B1 := Lib.hid B1
    replace hz := Lib.hid hz
    replace hR := Lib.hid hR
    go_enter Try.func20, Try.ntmps20
    go_wp2_with fail
    refine (hR.out _).mono ?_; rintro e w1 ⟨rfl, hb⟩
    have hz1 := nx hz.out (Nat.le_refl _) hb
    have B2 := B1.out.below hb B1.out.lt
    have c1 := B2.cell 1
    have c2 := B2.cell 2
    have hs1 := B2.lt
    clear hb
    replace hz1 := Lib.hid hz1
    replace B2 := Lib.hid B2
    go_wp2_with fail
    all_goals
      go_ret
      exact ⟨ret_i (by omega), hz1.out⟩
/-- A routine of the call's own goes alone: the heap, and what it leaves alone. -/
theorem ralone {σ : Type} (Rt : Rout σ) {w0 w : World} {hb b B : Nat} {S : PHeap} {s : σ} {F : Nat → Prop} {K : List (Nat × Obj)} (o : OwnK w0 hb S F K w) (hR : RAt Rt B w b s) (hFB : ∀ k, F k → k < B) (hKB : ∀ x ∈ K, x.1 < B) (hB : w0.heap.size ≤ B)
    (hf : S.faults ≤ 1000000000) (hla : S.last ≤ 1000000000) (most : Int) (hm : most ≤ 1000000) :
    Calls Try.prog 27 #[.pointer (some ⟨hb, 0, none⟩), .iface Rt.T (.pointer (some ⟨b, 0, none⟩)), .int .i64 most] w fun e w' => ∃ xs S' s' F' D', Runs Rt S s xs S' s' ∧ (most ≤ (xs.length : Nat) ∨ Rt.can S' s' = false) ∧
      e = .returned (.tuple #[.int .i64 (xs.length : Nat), .bool (!(Rt.act s').2)]) ∧ OwnK w0 hb S' F' K w' ∧ Rt.R w' D' b s' ∧ Off F' D' := by
  obtain ⟨D, hRD, hD⟩ := hR
  refine (alone_own Rt o.own hRD (fun k h1 h2 => by have := hFB k h1; have := hD k h2; omega) (fun k hk => Nat.le_trans hB (hD k hk)) hf hla most hm).mono ?_
  rintro e w' ⟨xs, S', s', F', D', h1, h2, _, h3, o', h4, h5, h6, h7⟩
  refine ⟨xs, S', s', F', D', h1, h2, h3, ⟨o', fun x hx => ?_⟩, h4, h7⟩
  have hxB := hKB x hx
  have hk := o.keep x hx
  have hlt := o.lt hx
  refine ⟨(h6.block _ hlt fun h => ?_).trans hk.1, fun h => ?_⟩
  · rcases h with h | h
    · exact hk.2 h
    · have := hD _ h; omega
  · rcases h5 _ (.inl h) with h8 | h8 | h8
    · exact hk.2 h8
    · have := hD _ h8; omega
    · omega
end Go.Proofs.Ytfelkkbgbgnpaaa
