import Derived.Deep.CutRange
import Derived.Deep.RegionHeld3
import Derived.StillTailTactics
import Derived.Test.YtmlnhjfdhjachaaQlh20
/-
  The bound of a read's acts: the program's, the document's; a routine of the call's own goes alone on a heap of the call's own. No condition.
-/
namespace Go.Proofs.Ytmlnhjfdhjachaa
set_option linter.unusedVariables false
open Go.ChangeShapes Go.WideShapes Go.ChangeAt Go.RowKit
open Go.ChangeMaps (setBlock)

/-- A routine of the call's own goes alone: the heap, and what it leaves alone. -/
theorem ralone {σ : Type} (Rt : Rout σ) {w0 w : World} {hb b B : Nat} {S : PHeap} {s : σ} {F : Nat → Prop} {K : List (Nat × Obj)} (o : OwnK w0 hb S F K w) (hR : RAt Rt B w b s) (hFB : ∀ k, F k → k < B) (hKB : ∀ x ∈ K, x.1 < B) (hB : w0.heap.size ≤ B)
    (hf : S.faults ≤ 1000000000) (hla : S.last ≤ 1000000000) (most : Int) (hm : most ≤ 1000000) :
    Calls Try.prog 8 #[.pointer (some ⟨hb, 0, none⟩), .iface Rt.T (.pointer (some ⟨b, 0, none⟩)), .int .i64 most] w fun e w' => ∃ xs S' s' F' D', Runs Rt S s xs S' s' ∧ (most ≤ (xs.length : Nat) ∨ Rt.can S' s' = false) ∧
      e = .returned (.tuple #[.int .i64 (xs.length : Nat), .bool (!(Rt.act s').2)]) ∧ OwnK w0 hb S' F' K w' ∧ Rt.R w' D' b s' ∧ Off F' D' := by
  obtain ⟨D, hRD, hD⟩ := hR
  refine (alone_own Rt o.own hRD (fun k h1 h2 => by have := hFB k h1; have := hD k h2; omega) (fun k hk => Nat.le_trans hB (hD k hk)) hf hla most hm).mono ?_
  rintro e w' ⟨xs, S', s', F', D', h1, h2, _, h3, o', h4, h5, h6, h7⟩
  refine ⟨xs, S', s', F', D', h1, h2, h3, ⟨o', fun x hx => ?_⟩, h4, h7⟩
  have hxB := hKB x hx
  have hk := o.keep x hx
  have hlt := o.lt hx
  refine ⟨(h6.block _ hlt fun h => ?_).trans hk.1, fun h => ?_⟩
  · rcases h with h | h
    · exact hk.2 h
    · have := hD _ h; omega
  · rcases h5 _ (.inl h) with h8 | h8 | h8
    · exact hk.2 h8
    · have := hD _ h8; omega
    · omega
end Go.Proofs.Ytmlnhjfdhjachaa

/-
  The examples of the law of reading (layer 26). No condition.
-/
namespace Go.Proofs.Ytmlnhjfdhjachaa
set_option linter.unusedVariables false
open Go.ChangeShapes Go.WideShapes Go.ChangeAt Go.RowKit
open Go.ChangeMaps (setBlock)

theorem tinyVR : tinyC.val = .agg #[.int .i64 2, .int .i64 2, .int .i64 3, .int .i64 2, .int .i64 1, .int .u64 0] := rfl
def kText : ByteArray := ⟨#[107]⟩
theorem fresh_look (c : PCfg) (hc : c.Right) (key : ByteArray) : lookP key (plN c key) (fun _ => none) c.shelves.toNat 0 = (2, ((plN c key 0 : Nat) : Int), 1) := by
  have h := hc.shelves
  obtain ⟨d, hd⟩ : ∃ d, c.shelves.toNat = d + 1 := ⟨c.shelves.toNat - 1, by omega⟩
  rw [hd]
  rfl
end Go.Proofs.Ytmlnhjfdhjachaa

/-
  Two answers that are alike, with pairs (layers 6 and 16). No condition.
-/
namespace Go.Proofs.Ytmlnhjfdhjachaa
set_option linter.unusedVariables false
open Go.ChangeShapes Go.WideShapes Go.ChangeAt Go.RowKit
open Go.ChangeMaps (setBlock)

structure SameRel (w : World) (n : Nat) (iv : Value) (wr : World) : Prop where
  ex : ∃ k : Nat, k ≤ n ∧ iv = .int .i64 k
  below : Below w.heap.size w wr
set_option maxRecDepth 100000 in
set_option maxHeartbeats 2000000 in
theorem same06_any {w : World} {A A' : Option Addr} {n cap cap' : Nat} {m : List (ByteArray × ByteArray)} (hlen : m.length = n) (hn : n ≤ 1000) (hr : Reads w w.heap.size 2 A n (pairL m)) (hr' : Reads w w.heap.size 2 A' n (pairL m)) :
    Calls Try.prog 13 #[.slice A n cap, .slice A' n cap'] w fun e w' => e = .returned (.bool true) ∧ Below w.heap.size w w' := by
  replace hr := Lib.hid hr
  replace hr' := Lib.hid hr'
  replace hlen := Lib.hid hlen
  go_enter Try.func13, Try.ntmps13
  go_wp2_with fail
  go_loopw [5] (fun iv wr => SameRel w n iv wr) (fun i _ => n + 1 - (intOf i).toNat)
  case atStart => exact ⟨⟨0, Nat.zero_le _, rfl⟩, Below.refl _ _⟩
  case round =>
    obtain ⟨⟨k, hk, rfl⟩, hbl⟩ := hrel
    by_cases hlt : k < n
    · have d2 : decide ((k : Int) < (n : Int)) = true := by simpa using hlt
      obtain ⟨ad, p, rfl, hp, r0, r1⟩ := pair_at hr.out hbl hlt hlen.out
      obtain ⟨ad', p', rfl, hp', s0, s1⟩ := pair_at hr'.out hbl hlt hlen.out
      obtain rfl : p' = p := by rw [hp] at hp'; injection hp' with hp'; exact hp'.symm
      have i1 : (0 : Int) ≤ (k : Int) := by omega
      have i2 : (k : Int) < (n : Int) := by omega
      have hl63 : (k : Int) + 1 ≤ 9223372036854775807 := by omega
      have r1' : wr.cell? ⟨(ad.add (k * 2)).block, (ad.add (k * 2)).off + 1, none⟩ = some (.string p'.2) := by
        have e : (⟨(ad.add (k * 2)).block, (ad.add (k * 2)).off + 1, none⟩ : Addr) = (ad.add (k * 2)).add 1 := rfl
        rw [e, add_of_add]
        exact r1
      have s1' : wr.cell? ⟨(ad'.add (k * 2)).block, (ad'.add (k * 2)).off + 1, none⟩ = some (.string p'.2) := by
        have e : (⟨(ad'.add (k * 2)).block, (ad'.add (k * 2)).off + 1, none⟩ : Addr) = (ad'.add (k * 2)).add 1 := rfl
        rw [e, add_of_add]
        exact s1
      obtain ⟨pk, pv⟩ := p'
      simp only at r0 r1' s0 s1'
      clear r1 s1 hp'
      replace hp := Lib.hid hp
      replace hbl := Lib.hid hbl
      go_wp2_with fail
      go_quiet (fail)
      go_wp2_with fail
      go_roundw
      case rel => exact ⟨⟨k + 1, by omega, by go_num⟩, below_drewN hbl.out _⟩
      case measure => simp [intOf]; omega
    · have d2 : decide ((k : Int) < (n : Int)) = false := by simpa using hlt
      go_wp2_with fail
      go_ret
      exact ⟨rfl, hbl⟩
end Go.Proofs.Ytmlnhjfdhjachaa

/-
  The examples of the law of viewing (layer 27). No condition.
-/
namespace Go.Proofs.Ytmlnhjfdhjachaa
set_option linter.unusedVariables false
open Go.ChangeShapes Go.WideShapes Go.ChangeAt Go.RowKit
open Go.ChangeMaps (setBlock)

def vText : ByteArray := ⟨#[118]⟩
end Go.Proofs.Ytmlnhjfdhjachaa

/-
  Pairs behind changes; blocks that are kept beside a heap of the call's own. No condition.
-/
namespace Go.Proofs.Ytmlnhjfdhjachaa
set_option linter.unusedVariables false
open Go.ChangeShapes Go.WideShapes Go.ChangeAt Go.RowKit
open Go.ChangeMaps (setBlock)

def cfgO (c : PCfg) : Obj := Obj.cells #[.int .i64 c.cap, .int .i64 c.pins, .int .i64 c.shelves, .int .i64 c.queue, .int .i64 c.watchers, .int .u64 c.seed] 24
theorem al1_below {w w1 wr : World} {hb : Nat} {S : PHeap} {F : Nat → Prop} {K : List (Nat × Obj)} (hz : Below w.heap.size w w1) (o : OwnK w1 hb S F K wr) : Below w.heap.size w wr := hz.trans (o.own.below.mono hz.size)
end Go.Proofs.Ytmlnhjfdhjachaa

/-
  Two routines beside a heap of the call's own, and blocks that all leave alone. No condition.
-/
namespace Go.Proofs.Ytmlnhjfdhjachaa
set_option linter.unusedVariables false
open Go.ChangeShapes Go.WideShapes Go.ChangeAt Go.RowKit
open Go.ChangeMaps (setBlock)

structure Two {σ τ : Type} (R1 : Rout σ) (R2 : Rout τ) (w0 : World) (hb : Nat) (S : PHeap) (F : Nat → Prop) (K : List (Nat × Obj)) (b1 : Nat) (s1 : σ) (b2 : Nat) (s2 : τ) (w : World) : Prop where
  own : OwnK w0 hb S F K w
  rt : ∃ D1 D2, R1.R w D1 b1 s1 ∧ R2.R w D2 b2 s2 ∧ Off F D1 ∧ Off F D2 ∧ (∀ k, D1 k → ¬ D2 k) ∧ (∀ k, D1 k ∨ D2 k → w0.heap.size ≤ k) ∧ ∀ x ∈ K, ¬ D1 x.1 ∧ ¬ D2 x.1
section
variable {σ τ : Type} {R1 : Rout σ} {R2 : Rout τ} {w0 w w' : World} {hb b1 b2 : Nat} {S : PHeap} {F : Nat → Prop} {K : List (Nat × Obj)} {s1 : σ} {s2 : τ}
theorem Two.swap (h : Two R1 R2 w0 hb S F K b1 s1 b2 s2 w) : Two R2 R1 w0 hb S F K b2 s2 b1 s1 w := by
  obtain ⟨D1, D2, h1, h2, h3, h4, h5, h6, h7⟩ := h.rt
  exact ⟨h.own, D2, D1, h2, h1, h4, h3, fun k hk hk1 => h5 k hk1 hk, fun k hk => h6 k hk.symm, fun x hx => (h7 x hx).symm⟩
theorem Two.below (h : Two R1 R2 w0 hb S F K b1 s1 b2 s2 w) (hb' : Below w.heap.size w w') : Two R1 R2 w0 hb S F K b1 s1 b2 s2 w' := by
  obtain ⟨D1, D2, h1, h2, h3, h4, h5, h6, h7⟩ := h.rt
  exact ⟨h.own.below hb', D1, D2, R1.below h1 hb', R2.below h2 hb', h3, h4, h5, h6, h7⟩
theorem Two.add (h : Two R1 R2 w0 hb S F K b1 s1 b2 s2 w) (o : Obj) : Two R1 R2 w0 hb S F ((w.heap.size, o) :: K) b1 s1 b2 s2 (w.alloc o) := by
  obtain ⟨D1, D2, h1, h2, h3, h4, h5, h6, h7⟩ := h.rt
  refine ⟨h.own.add o, D1, D2, R1.below h1 (Below.more_ (Below.refl _ _) o), R2.below h2 (Below.more_ (Below.refl _ _) o), h3, h4, h5, h6, fun x hx => ?_⟩
  rcases List.mem_cons.1 hx with rfl | hx
  · exact ⟨fun hD => by have := R1.own h1 _ hD; simp only at this; omega, fun hD => by have := R2.own h2 _ hD; simp only at this; omega⟩
  · exact h7 x hx
/-- The second one was made behind the first one. -/
theorem Two.start {B : Nat} {w5 : World} (o : OwnK w0 hb S F K w) (hFB : ∀ k, F k → k < B) (hKB : ∀ x ∈ K, x.1 < B) (hB : w0.heap.size ≤ B) (h1 : RAt R1 B w5 b1 s1) (h5 : B ≤ w5.heap.size) (hbl : Below w5.heap.size w5 w) (h2 : RAt R2 w5.heap.size w b2 s2) : Two R1 R2 w0 hb S F K b1 s1 b2 s2 w := by
  obtain ⟨D1, k1, k2⟩ := h1
  obtain ⟨D2, j1, j2⟩ := h2
  refine ⟨o, D1, D2, R1.below k1 hbl, j1, fun k hF hD => by have := hFB k hF; have := k2 k hD; omega, fun k hF hD => by have := hFB k hF; have := j2 k hD; omega, fun k h1 h2 => by have := R1.own k1 k h1; have := j2 k h2; omega, fun k hk => ?_, fun x hx => ⟨fun hD => by have := hKB x hx; have := k2 _ hD; omega, fun hD => by have := hKB x hx; have := j2 _ hD; omega⟩⟩
  rcases hk with hk | hk
  · have := k2 k hk; omega
  · have := j2 k hk; omega
/-- The first one goes on alone. -/
theorem Two.alone (h : Two R1 R2 w0 hb S F K b1 s1 b2 s2 w) (hf : S.faults ≤ 1000000000) (hla : S.last ≤ 1000000000) (most : Int) (hm : most ≤ 1000000) :
    Calls Try.prog 8 #[.pointer (some ⟨hb, 0, none⟩), .iface R1.T (.pointer (some ⟨b1, 0, none⟩)), .int .i64 most] w fun e w' => ∃ xs S' s' F', Runs R1 S s1 xs S' s' ∧ (most ≤ (xs.length : Nat) ∨ R1.can S' s' = false) ∧
      e = .returned (.tuple #[.int .i64 (xs.length : Nat), .bool (!(R1.act s').2)]) ∧ Two R1 R2 w0 hb S' F' K b1 s' b2 s2 w' := by
  obtain ⟨D1, D2, h1, h2, h3, h4, h5, h6, h7⟩ := h.rt
  refine (alone_own R1 h.own.own h1 h3 (fun k hk => h6 k (.inl hk)) hf hla most hm).mono ?_
  rintro e w' ⟨xs, S', s', F', D', k1, k2, _, k3, o', k4, k5, k6, k7⟩
  have hnot : ∀ x ∈ K, ¬ F' x.1 ∧ ¬ D' x.1 := fun x hx => by
    have hk := h.own.keep x hx
    have hl := h.own.lt hx
    have h6 : ¬ (F' x.1 ∨ D' x.1) := fun hh => by
      rcases k5 _ hh with h5 | h5 | h5
      · exact hk.2 h5
      · exact (h7 x hx).1 h5
      · omega
    exact ⟨fun hh => h6 (.inl hh), fun hh => h6 (.inr hh)⟩
  have hno2 : ∀ k, D2 k → ¬ (F' k ∨ D' k) := fun k hk hh => by
    rcases k5 _ hh with j5 | j5 | j5
    · exact h4 k j5 hk
    · exact h5 k j5 hk
    · have := R2.own h2 k hk; omega
  refine ⟨xs, S', s', F', k1, k2, k3, ⟨o', fun x hx => ⟨?_, (hnot x hx).1⟩⟩, D', D2, k4, ?_, k7, fun k hF hD => hno2 k hD (.inl hF), fun k hk hD => hno2 k hD (.inr hk), fun k hk => ?_, fun x hx => ⟨(hnot x hx).2, (h7 x hx).2⟩⟩
  · have hk := h.own.keep x hx
    exact (k6.block _ (h.own.lt hx) fun hh => by rcases hh with hh | hh; exact hk.2 hh; exact (h7 x hx).1 hh).trans hk.1
  · refine R2.keep h2 k6.size fun k hk => k6.block k (R2.own h2 k hk) fun hh => ?_
    rcases hh with hh | hh
    · exact h4 k hh hk
    · exact h5 k hh hk
  · rcases hk with hk | hk
    · rcases k5 k (.inr hk) with j5 | j5 | j5
      · exact h.own.own.new k j5
      · exact h6 k (.inl j5)
      · have := h.own.own.below.size; omega
    · exact h6 k (.inr hk)
end
end Go.Proofs.Ytmlnhjfdhjachaa

/-
  The walk over the law that a view tells what a read tells (layer 27). No condition.
-/
namespace Go.Proofs.Ytmlnhjfdhjachaa
set_option linter.unusedVariables false
open Go.ChangeShapes Go.WideShapes Go.ChangeAt Go.RowKit
open Go.ChangeMaps (setBlock)

theorem view_most {c : PCfg} (h : c.Right) : c.shelves * (4 + 2 * ((30 : Nat) : Int)) + 20 ≤ 10000 := by
  have := h.shelves
  rw [show (4 + 2 * ((30 : Nat) : Int)) = 64 from by decide]
  omega
end Go.Proofs.Ytmlnhjfdhjachaa

/-
  A routine beside a heap of the call's own, and blocks that both leave alone. No condition.
-/
namespace Go.Proofs.Ytmlnhjfdhjachaa
set_option linter.unusedVariables false
open Go.ChangeShapes Go.WideShapes Go.ChangeAt Go.RowKit
open Go.ChangeMaps (setBlock)

structure Duo {σ : Type} (Rt : Rout σ) (w0 : World) (hb : Nat) (S : PHeap) (F : Nat → Prop) (K : List (Nat × Obj)) (b : Nat) (s : σ) (w : World) : Prop where
  own : OwnK w0 hb S F K w
  rt : ∃ D, Rt.R w D b s ∧ Off F D ∧ (∀ k, D k → w0.heap.size ≤ k) ∧ ∀ x ∈ K, ¬ D x.1
section
variable {σ : Type} {Rt : Rout σ} {w0 w w' : World} {hb b : Nat} {S : PHeap} {F : Nat → Prop} {K : List (Nat × Obj)} {s : σ}
theorem Duo.below (h : Duo Rt w0 hb S F K b s w) (hb' : Below w.heap.size w w') : Duo Rt w0 hb S F K b s w' := by
  obtain ⟨D, h1, h2, h3, h4⟩ := h.rt
  exact ⟨h.own.below hb', D, Rt.below h1 hb', h2, h3, h4⟩
theorem Duo.add (h : Duo Rt w0 hb S F K b s w) (o : Obj) : Duo Rt w0 hb S F ((w.heap.size, o) :: K) b s (w.alloc o) := by
  obtain ⟨D, h1, h2, h3, h4⟩ := (h.below (Below.more_ (Below.refl _ _) o)).rt
  obtain ⟨D, h1, h2, h3, h4⟩ := h.rt
  refine ⟨h.own.add o, D, Rt.below h1 (Below.more_ (Below.refl _ _) o), h2, h3, fun x hx => ?_⟩
  rcases List.mem_cons.1 hx with rfl | hx
  · exact fun hD => by have := Rt.own h1 _ hD; simp only at this; omega
  · exact h4 x hx
theorem Duo.less {x : Nat × Obj} (h : Duo Rt w0 hb S F (x :: K) b s w) : Duo Rt w0 hb S F K b s w := by
  obtain ⟨D, h1, h2, h3, h4⟩ := h.rt
  exact ⟨h.own.less, D, h1, h2, h3, fun y hy => h4 y (List.mem_cons_of_mem _ hy)⟩
/-- The first one: a routine of the call's own, behind the heap and the blocks. -/
theorem Duo.start {B : Nat} (o : OwnK w0 hb S F K w) (hR : RAt Rt B w b s) (hFB : ∀ k, F k → k < B) (hKB : ∀ x ∈ K, x.1 < B) (hB : w0.heap.size ≤ B) : Duo Rt w0 hb S F K b s w := by
  obtain ⟨D, h1, h2⟩ := hR
  exact ⟨o, D, h1, fun k hF hD => by have := hFB k hF; have := h2 k hD; omega, fun k hD => Nat.le_trans hB (h2 k hD), fun x hx hD => by have := hKB x hx; have := h2 _ hD; omega⟩
/-- One step of it. -/
theorem Duo.next (h : Duo Rt w0 hb S F K b s w) (hf : S.faults < 9223372036854775807) (hla : S.last < 9223372036854775807) :
    Calls Try.prog 14 #[.pointer (some ⟨hb, 0, none⟩), .iface Rt.T (.pointer (some ⟨b, 0, none⟩))] w fun e w' => ∃ a g is S' F' s', e = .returned (.tuple #[stepV 0 a g, .bool is]) ∧ Duo Rt w0 hb S' F' K b s' w' ∧
      ((is = false ∧ Rt.can S s = false ∧ S' = S ∧ s' = s) ∨ (is = true ∧ Rt.can S s = true ∧ ∃ r, S' = (S.act (Rt.act s).1 r).2 ∧ s' = Rt.take s (S.act (Rt.act s).1 r).1)) := by
  obtain ⟨D, h1, h2, h3, h4⟩ := h.rt
  refine (next_own Rt h.own.own h1 h2 h3 hf hla).mono ?_
  rintro e w' ⟨a, g, is, he, S', s', F', D', hN⟩
  have hnot : ∀ x ∈ K, ¬ F' x.1 ∧ ¬ D' x.1 := fun x hx => by
    have hk := h.own.keep x hx
    have hl := h.own.lt hx
    have h6 : ¬ (F' x.1 ∨ D' x.1) := fun hh => by
      rcases hN.sub _ hh with h5 | h5 | h5
      · exact hk.2 h5
      · exact h4 x hx h5
      · omega
    exact ⟨fun hh => h6 (.inl hh), fun hh => h6 (.inr hh)⟩
  refine ⟨a, g, is, S', F', s', he, ⟨⟨hN.own, fun x hx => ⟨?_, (hnot x hx).1⟩⟩, D', hN.rt, hN.off, fun k hk => ?_, fun x hx => (hnot x hx).2⟩, hN.did⟩
  · have hk := h.own.keep x hx
    exact (hN.chg.block _ (h.own.lt hx) fun hh => by rcases hh with hh | hh; exact hk.2 hh; exact h4 x hx hh).trans hk.1
  · rcases hN.sub k (.inr hk) with h5 | h5 | h5
    · exact h.own.own.new k h5
    · exact h3 k h5
    · have := h.own.own.below.size; omega
/-- It goes on alone. -/
theorem Duo.alone (h : Duo Rt w0 hb S F K b s w) (hf : S.faults ≤ 1000000000) (hla : S.last ≤ 1000000000) (most : Int) (hm : most ≤ 1000000) :
    Calls Try.prog 8 #[.pointer (some ⟨hb, 0, none⟩), .iface Rt.T (.pointer (some ⟨b, 0, none⟩)), .int .i64 most] w fun e w' => ∃ xs S' s' F', Runs Rt S s xs S' s' ∧ (most ≤ (xs.length : Nat) ∨ Rt.can S' s' = false) ∧
      e = .returned (.tuple #[.int .i64 (xs.length : Nat), .bool (!(Rt.act s').2)]) ∧ Duo Rt w0 hb S' F' K b s' w' := by
  obtain ⟨D, h1, h2, h3, h4⟩ := h.rt
  refine (alone_own Rt h.own.own h1 h2 h3 hf hla most hm).mono ?_
  rintro e w' ⟨xs, S', s', F', D', k1, k2, _, k3, o', k4, k5, k6, k7⟩
  have hnot : ∀ x ∈ K, ¬ F' x.1 ∧ ¬ D' x.1 := fun x hx => by
    have hk := h.own.keep x hx
    have hl := h.own.lt hx
    have h6 : ¬ (F' x.1 ∨ D' x.1) := fun hh => by
      rcases k5 _ hh with h5 | h5 | h5
      · exact hk.2 h5
      · exact h4 x hx h5
      · omega
    exact ⟨fun hh => h6 (.inl hh), fun hh => h6 (.inr hh)⟩
  refine ⟨xs, S', s', F', k1, k2, k3, ⟨o', fun x hx => ⟨?_, (hnot x hx).1⟩⟩, D', k4, k7, fun k hk => ?_, fun x hx => (hnot x hx).2⟩
  · have hk := h.own.keep x hx
    exact (k6.block _ (h.own.lt hx) fun hh => by rcases hh with hh | hh; exact hk.2 hh; exact h4 x hx hh).trans hk.1
  · rcases k5 k (.inr hk) with h5 | h5 | h5
    · exact h.own.own.new k h5
    · exact h3 k h5
    · have := h.own.own.below.size; omega
end
end Go.Proofs.Ytmlnhjfdhjachaa

/-
  drive.Next on a heap of the call's own: which act it was that was done. No condition.
-/
namespace Go.Proofs.Ytmlnhjfdhjachaa
set_option linter.unusedVariables false
open Go.ChangeShapes Go.WideShapes Go.ChangeAt Go.RowKit
open Go.ChangeMaps (setBlock)

theorem next_own2 {σ : Type} (Rt : Rout σ) {w0 w : World} {hb b : Nat} {S : PHeap} {s : σ} {F D : Nat → Prop} (o : Own w0 hb S F w) (hR : Rt.R w D b s) (off : Off F D) (hD : ∀ k, D k → w0.heap.size ≤ k)
    (hf : S.faults < 9223372036854775807) (hla : S.last < 9223372036854775807) :
    Calls Try.prog 14 #[.pointer (some ⟨hb, 0, none⟩), .iface Rt.T (.pointer (some ⟨b, 0, none⟩))] w fun e w' => ∃ a g is, e = .returned (.tuple #[stepV 0 a g, .bool is]) ∧ (is = true → a = (Rt.act s).1) ∧ ∃ S' s' F' D', NextP Rt w0 w F D hb b S s S' s' F' D' is w' := by
  have went : ∀ {S' : PHeap} {s' : σ} {w' : World}, Went Rt F D hb b S' s' w w' → ∃ F' D', Own w0 hb S' F' w' ∧ Rt.R w' D' b s' ∧ Off F' D' ∧ (∀ k, F' k ∨ D' k → F k ∨ D k ∨ w.heap.size ≤ k) ∧ Chg (fun k => F k ∨ D k) w w' := by
    intro S' s' w' ⟨⟨F', D', k1, k2, k3, k4⟩, k5⟩
    have sub : ∀ k, F' k ∨ D' k → F k ∨ D k ∨ w.heap.size ≤ k := fun k hk => by
      rcases k4 k hk with (hk | hk) | hk
      · exact .inl hk
      · exact .inr (.inl hk)
      · exact .inr (.inr hk)
    refine ⟨F', D', ⟨k1, fun k hk => ?_, o.below.trans (k5.below (fun k hk => ?_) o.below.size)⟩, k2, k3, sub, k5⟩
    · rcases sub k (.inl hk) with hk | hk | hk
      · exact o.new k hk
      · exact hD k hk
      · have := o.below.size; omega
    · rcases hk with hk | hk
      · exact o.new k hk
      · exact hD k hk
  cases hy : (Rt.act s).2 with
  | false =>
    refine (next_stop Rt o.heap hR hy).mono fun e w' ⟨he, hb1⟩ => ⟨noAct, noGot, false, he, fun h => (by cases h), S, s, F, D, ⟨o.keep hb1, Rt.below hR hb1, off, fun k hk => by rcases hk with hk | hk; exact .inl hk; exact .inr (.inl hk), Chg.of_below hb1 _, .inl ⟨rfl, by unfold Rout.can; rw [hy]; rfl, rfl, rfl⟩⟩⟩
  | true =>
    cases hr : S.ready (Rt.act s).1 with
    | false =>
      refine (next_wait Rt o.heap hR off hf hy hr).mono fun e w' ⟨he, hw⟩ => ?_
      obtain ⟨F', D', k1, k2, k3, k4, k5⟩ := went hw
      exact ⟨noAct, noGot, false, he, fun h => (by cases h), S, s, F', D', ⟨k1, k2, k3, k4, k5, .inl ⟨rfl, by unfold Rout.can; rw [hr, Bool.and_false], rfl, rfl⟩⟩⟩
    | true =>
      refine (next_go Rt o.heap hR off hf hy hla hr).mono fun e w' ⟨r, he, hw⟩ => ?_
      obtain ⟨F', D', k1, k2, k3, k4, k5⟩ := went hw
      exact ⟨_, _, true, he, fun _ => rfl, _, _, F', D', ⟨k1, k2, k3, k4, k5, .inr ⟨rfl, by unfold Rout.can; rw [hy, hr]; rfl, r, rfl, rfl⟩⟩⟩
section
variable {σ : Type} {Rt : Rout σ} {w0 w w' : World} {hb b : Nat} {S : PHeap} {F : Nat → Prop} {K : List (Nat × Obj)} {s : σ}
theorem Duo.next2 (h : Duo Rt w0 hb S F K b s w) (hf : S.faults < 9223372036854775807) (hla : S.last < 9223372036854775807) :
    Calls Try.prog 14 #[.pointer (some ⟨hb, 0, none⟩), .iface Rt.T (.pointer (some ⟨b, 0, none⟩))] w fun e w' => ∃ a g is S' F' s', e = .returned (.tuple #[stepV 0 a g, .bool is]) ∧ Duo Rt w0 hb S' F' K b s' w' ∧ (is = true → a = (Rt.act s).1) ∧
      ((is = false ∧ Rt.can S s = false ∧ S' = S ∧ s' = s) ∨ (is = true ∧ Rt.can S s = true ∧ ∃ r, S' = (S.act (Rt.act s).1 r).2 ∧ s' = Rt.take s (S.act (Rt.act s).1 r).1)) := by
  obtain ⟨D, h1, h2, h3, h4⟩ := h.rt
  refine (next_own2 Rt h.own.own h1 h2 h3 hf hla).mono ?_
  rintro e w' ⟨a, g, is, he, hka, S', s', F', D', hN⟩
  have hnot : ∀ x ∈ K, ¬ F' x.1 ∧ ¬ D' x.1 := fun x hx => by
    have hk := h.own.keep x hx
    have hl := h.own.lt hx
    have h6 : ¬ (F' x.1 ∨ D' x.1) := fun hh => by
      rcases hN.sub _ hh with h5 | h5 | h5
      · exact hk.2 h5
      · exact h4 x hx h5
      · omega
    exact ⟨fun hh => h6 (.inl hh), fun hh => h6 (.inr hh)⟩
  refine ⟨a, g, is, S', F', s', he, ⟨⟨hN.own, fun x hx => ⟨?_, (hnot x hx).1⟩⟩, D', hN.rt, hN.off, fun k hk => ?_, fun x hx => (hnot x hx).2⟩, hka, hN.did⟩
  · have hk := h.own.keep x hx
    exact (hN.chg.block _ (h.own.lt hx) fun hh => by rcases hh with hh | hh; exact hk.2 hh; exact h4 x hx hh).trans hk.1
  · rcases hN.sub k (.inr hk) with h5 | h5 | h5
    · exact h.own.own.new k h5
    · exact h3 k h5
    · have := h.own.own.below.size; omega
end
end Go.Proofs.Ytmlnhjfdhjachaa
