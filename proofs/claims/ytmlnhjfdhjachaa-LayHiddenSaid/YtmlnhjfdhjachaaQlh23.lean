import Derived.Deep.CutRange
import Derived.Deep.RegionHeld3
import Derived.StillTailTactics
import Derived.Test.YtmlnhjfdhjachaaProg
import Derived.Sort.WalkA
import Derived.Sort.WalkA6
import Derived.Sort.WalkC4
import Derived.Lib.Strings
import Derived.Lib.Slices
import Derived.Lib.Small
import Derived.Lib.Walk
import Derived.Lib.BitFns
import Derived.Sort.Walk7
import Derived.Sort.WalkB3
import Derived.Sort.WalkD2
import Derived.Sort.Walk11
import Derived.Sort.Walk13
import Derived.Sort.WalkA14
import Derived.Sort.AssemblyPlain
import Derived.Test.YtmlnhjfdhjachaaRows
import Derived.SizedLaws
import Derived.Lib.SmallJoins
import Derived.Deep.Slices
import Derived.Test.YtmlnhjfdhjachaaQlh21
import Derived.Test.YtmlnhjfdhjachaaQlh22
/-
  The walk over the law of viewing alone (layer 27). No condition.
-/
namespace Go.Proofs.Ytmlnhjfdhjachaa
set_option linter.unusedVariables false
open Go.ChangeShapes Go.WideShapes Go.ChangeAt Go.RowKit
open Go.ChangeMaps (setBlock)

theorem own_keep {W : World} {base n : Nat} {v : Value} {xs : List Value} (h : W.ownsRow base 93 2 v n xs) : ∃ Kr : List (Nat × Obj), (∀ x ∈ Kr, W.heap[x.1]? = some x.2 ∧ base ≤ x.1) ∧ ∀ W' : World, (∀ x ∈ Kr, W'.heap[x.1]? = some x.2) → W'.ownsRow base 93 2 v n xs := by
  rcases h.2 with ⟨rfl, rfl⟩ | ⟨g, cap, cur, e1, e2, e3, r⟩
  · exact ⟨[], fun x hx => (by cases hx), fun W' _ => ⟨h.1, .inl ⟨rfl, rfl⟩⟩⟩
  · exact ⟨[(g, .cells cur 93)], fun x hx => by rw [List.mem_singleton.1 hx]; exact ⟨e3, e2⟩, fun W' hW => ⟨h.1, .inr ⟨g, cap, cur, e1, e2, hW _ (List.mem_singleton.2 rfl), r⟩⟩⟩
theorem OwnK.join {w0 w : World} {hb : Nat} {S : PHeap} {F : Nat → Prop} {K Kr : List (Nat × Obj)} (h : OwnK w0 hb S F K w) (hr : ∀ x ∈ Kr, w.heap[x.1]? = some x.2 ∧ ¬ F x.1) : OwnK w0 hb S F (Kr ++ K) w := ⟨h.own, fun x hx => by
  rcases List.mem_append.1 hx with hx | hx
  · exact hr x hx
  · exact h.keep x hx⟩
theorem faults_ownK {w1 W0 : World} {hb : Nat} {S : PHeap} {F : Nat → Prop} {K : List (Nat × Obj)} (o : OwnK w1 hb S F K W0) (hf : S.faults = 0) : ∀ W, OwnK w1 hb S F K W → Calls Try.prog 16 #[.pointer (some ⟨hb, 0, none⟩)] W fun e w' => e = .returned (.int .i64 0) ∧ W = w' :=
  fun W h => by
    have h1 := faults_any h.own.heap
    rw [hf] at h1
    exact h1
end Go.Proofs.Ytmlnhjfdhjachaa

/-
  Laying: the examples, and whether a row of changes is short (layer 30). No condition.
-/
namespace Go.Proofs.Ytmlnhjfdhjachaa
set_option linter.unusedVariables false
open Go.ChangeShapes Go.WideShapes Go.ChangeAt Go.RowKit
open Go.ChangeMaps (setBlock)

theorem chL_cells {w : World} {B n : Nat} {A : Option Addr} {l : List PChange} (h : Reads w B 3 A n (chL l)) (hn : l.length = n) {k : Nat} (hk : k < n) :
    ∃ ad x, A = some ad ∧ ad.block < B ∧ l[k]? = some x ∧ ∀ W, Below B w W → (W.cell? (ad.add (k * 3)) = some (.string x.key) ∧ W.cell? ⟨(ad.add (k * 3)).block, (ad.add (k * 3)).off + 1, none⟩ = some (.bool x.has) ∧ W.cell? ⟨(ad.add (k * 3)).block, (ad.add (k * 3)).off + 2, none⟩ = some (.string x.value)) := by
  obtain ⟨ch, hch⟩ : ∃ ch, l[k]? = some ch := ⟨_, List.getElem?_eq_getElem (by omega)⟩
  obtain ⟨ad, rfl, hadb, hcl⟩ := h.2 (show 0 < n by omega)
  obtain ⟨q0, q1, q2⟩ := chL_at l k ch hch
  refine ⟨ad, ch, rfl, hadb, hch, fun W hW => ⟨keepc hW hadb (hcl _ _ q0), ?_, ?_⟩⟩
  · have e : (⟨(ad.add (k * 3)).block, (ad.add (k * 3)).off + 1, none⟩ : Addr) = (ad.add (k * 3)).add 1 := rfl
    rw [e, add_of_add]
    exact keepc hW hadb (hcl _ _ q1)
  · have e : (⟨(ad.add (k * 3)).block, (ad.add (k * 3)).off + 2, none⟩ : Addr) = (ad.add (k * 3)).add 2 := rfl
    rw [e, add_of_add]
    exact keepc hW hadb (hcl _ _ q2)
set_option maxRecDepth 100000 in
set_option maxHeartbeats 2000000 in
theorem short30_any (A : Option Addr) (len cap : Nat) (l : List PChange) (hlen : l.length = len) (hmax : len ≤ maxLen) (n : Int) (hn : n ≤ 80) (w : World) (hr : Reads w w.heap.size 3 A len (chL l)) :
    Calls Try.prog 5 #[.slice A len cap, .int .i64 n] w fun e w' => ∃ fb : Bool, e = .returned (.bool fb) ∧ (fb = true → (len : Int) ≤ n ∧ ∀ ch ∈ l, ch.key.size ≤ 100 ∧ ch.value.size ≤ 200) ∧ w = w' := by
  have hmax' : len ≤ 9223372036854775807 := by unfold maxLen at hmax; omega
  have done : ∀ k : Nat, (k = len ∨ 80 ≤ k ∧ k < len) → (∀ j, j < k → ∀ x, l[j]? = some x → x.key.size ≤ 100 ∧ x.value.size ≤ 200) → ∀ e : Ending, ∀ w', e = .returned (.bool (decide ((len : Int) ≤ n))) → w = w' → ∃ fb : Bool, e = .returned (.bool fb) ∧ (fb = true → (len : Int) ≤ n ∧ ∀ ch ∈ l, ch.key.size ≤ 100 ∧ ch.value.size ≤ 200) ∧ w = w' := fun k hk hj e w' h1 h2 => ⟨_, h1, fun h => by
    have h3 := of_decide_eq_true h
    refine ⟨h3, fun ch hch => ?_⟩
    obtain ⟨j, hj1⟩ := List.getElem?_of_mem hch
    have hjl : j < l.length := by
      rcases Nat.lt_or_ge j l.length with h | h
      · exact h
      · rw [List.getElem?_eq_none h] at hj1; cases hj1
    exact hj j (by omega) ch hj1, h2⟩
  replace done := Lib.hid done
  replace hn := Lib.hid hn
  go_enter Try.func5, Try.ntmps5
  go_wp2_with fail
  go_loopw [5] (fun i wr => wr = w ∧ ∃ k : Nat, k ≤ len ∧ i = .int .i64 k ∧ ∀ j, j < k → ∀ x, l[j]? = some x → x.key.size ≤ 100 ∧ x.value.size ≤ 200) (fun i _ => len + 1 - (intOf i).toNat)
  case atStart => exact ⟨rfl, 0, by omega, rfl, fun j hj => by omega⟩
  case round =>
    obtain ⟨rfl, k, hk, rfl, hj⟩ := hrel
    replace hj := Lib.hid hj
    by_cases hlt : k < len
    · have d1 : decide ((k : Int) < (len : Int)) = true := by simp; omega
      by_cases h80 : k < 80
      · have d2 : decide ((k : Int) < 80) = true := by simp; omega
        obtain ⟨ad, x, rfl, hb, hx, hc⟩ := chL_cells hr hlen hlt
        obtain ⟨c0, _, c2⟩ := hc _ (Below.refl _ _)
        have i1 : (0 : Int) ≤ (k : Int) := by omega
        have i2 : (k : Int) < (len : Int) := by omega
        clear hc
        replace hx := Lib.hid hx
        by_cases h1 : 100 < x.key.size
        · have d3 : decide ((100 : Int) < (x.key.size : Int)) = true := by simp; omega
          go_wp2_with fail
          go_ret
          exact ⟨false, rfl, (fun h => by cases h), rfl⟩
        have d3 : decide ((100 : Int) < (x.key.size : Int)) = false := by simp; omega
        by_cases h2 : 200 < x.value.size
        · have d4 : decide ((200 : Int) < (x.value.size : Int)) = true := by simp; omega
          go_wp2_with fail
          go_ret
          exact ⟨false, rfl, (fun h => by cases h), rfl⟩
        · have d4 : decide ((200 : Int) < (x.value.size : Int)) = false := by simp; omega
          go_wp2_with fail
          go_roundw
          case rel =>
            refine ⟨trivial, k + 1, by omega, by go_num, fun j hjk y hy => ?_⟩
            rcases Nat.lt_or_eq_of_le (Nat.lt_succ_iff.1 hjk) with h | h
            · exact hj.out j h y hy
            · rw [h, hx.out] at hy
              injection hy with hy
              rw [← hy]
              exact ⟨by omega, by omega⟩
          case measure => simp [intOf]; omega
      · have d2 : decide ((k : Int) < 80) = false := by simp; omega
        go_wp2_with fail
        go_ret
        exact done.out k (.inr ⟨by omega, by omega⟩) hj.out _ _ rfl rfl
    · have d1 : decide ((k : Int) < (len : Int)) = false := by simp; omega
      go_wp2_with fail
      go_ret
      exact done.out k (.inl (by omega)) hj.out _ _ rfl rfl
/-- The example's change. -/
def kChange : PChange := ⟨kText, true, vText⟩
theorem lay_ex0 {S S' : PHeap} {s' : PLay} {xs : List (PAct × PGot)} (hL : Laid S tinyC (fun _ => none) (fun _ => []) (fun _ => 0) 0) (hr : Runs layRout S (newLay tinyC 1 []) xs S' s') (hs : (9 : Int) ≤ (xs.length : Nat) ∨ layRout.can S' s' = false) : s'.part = 8 ∧ s'.laid = 0 ∧ Laid S' tinyC (fun _ => none) (fun _ => []) (fun _ => 0) 1 ∧ S'.last = S.last ∧ xs.length = 1 := by
  have ha : layRout.act (newLay tinyC 1 []) = (⟨2, 1, ((0 : Nat) : Int), 0, 1, ByteArray.empty⟩, true) := rfl
  obtain ⟨r, l, rfl, hr2, hs2⟩ := run_one ha (ready_store _ _ _) hr hs (by decide)
  rw [hL.epoch.store 1 r] at hr2
  obtain ⟨rfl, rfl, rfl⟩ := run_end (Rt := layRout) rfl hr2
  exact ⟨rfl, rfl, hL.at_epoch tiny_right 1, rfl, rfl⟩
def JX (l : List PChange) (half : Option Nat) (n : Int) (tx : Nat → Option ByteArray) (_ : Nat → List PVersion) : Prop := (l = [kChange] ∧ half = none ∧ n = 0 ∧ tx = fun _ => none) ∨ (l = [kChange] ∧ n = 1 ∧ half ≠ none) ∨ (l = [] ∧ n = 1)
theorem jx_law : LawJ tinyC 2 JX where
  one := fun {ch l n tx st p} b hj htx _ => by
    rcases hj with ⟨_, _, _, h⟩ | ⟨_, _, h⟩ | ⟨h, _⟩
    · rw [h] at htx; cases htx
    · exact absurd rfl h
    · cases h
  two := fun {ch l n tx st p} b hj htx _ => by
    rcases hj with ⟨h1, _, h2, h⟩ | ⟨_, _, h⟩ | ⟨h, _⟩
    · exact .inr (.inl ⟨h1, by omega, by simp⟩)
    · exact absurd rfl h
    · cases h
  name := fun {ch l n tx st p} hj htx _ => by
    rcases hj with ⟨_, h, _⟩ | ⟨h1, h2, h⟩ | ⟨h, _⟩
    · cases h
    · injection h1 with _ h1
      exact .inr (.inr ⟨h1, h2⟩)
    · cases h
  full := fun {ch l n tx st} hj hl => by
    rcases hj with ⟨_, _, _, h⟩ | ⟨_, _, h⟩ | ⟨h, _⟩
    · rw [h] at hl
      have := hl.1
      rw [fresh_look _ tiny_right] at this
      cases this
    · exact absurd rfl h
    · cases h
theorem lay_ex1 {S S' : PHeap} {s' : PLay} {xs : List (PAct × PGot)} (hL : Laid S tinyC (fun _ => none) (fun _ => []) (fun _ => 0) 1) (hla : S.last ≤ 10) (hr : Runs layRout S (newLay tinyC 2 [kChange]) xs S' s') (hs : (99 : Int) ≤ (xs.length : Nat) ∨ layRout.can S' s' = false) : s'.part = 8 ∧ s'.laid = 1 ∧ ∃ tx st, Laid S' tinyC tx st (fun _ => 0) 2 := by
  have hst : LSt tinyC 2 S (fun _ => none) (fun _ => []) (fun _ => 0) 1 (newLay tinyC 2 [kChange]) none (2 * (3 : Nat) + 10 + 140 * (0 : Nat)) := by
    have e : newLay tinyC 2 [kChange] = ⟨tinyC, 2, kChange :: [], 1, findAt tinyC kChange.key ((0 : Nat) : Int).toNat 0, 0, 0, ⟨[], 0, 0⟩, 0, 0⟩ := by
      show (⟨tinyC, 2, [kChange], 1, newFind tinyC kChange.key, 0, 0, ⟨[], 0, 0⟩, 0, 0⟩ : PLay) = _
      rw [newFind_at tinyC tiny_right]
      rfl
    rw [e]
    have hf := fresh_look tinyC tiny_right kChange.key
    have hf3 : lookP kChange.key (plN tinyC kChange.key) (fun _ => none) 3 0 = (2, ((plN tinyC kChange.key 0 : Nat) : Int), 1) := hf
    exact .f0 0 3 (by decide) (by decide) (by rw [hf3]; exact ⟨by rw [hf], by rw [hf]; rfl⟩) (by rw [hf3]; show (0 : Int) ≤ ((plN tinyC kChange.key 0 : Nat) : Int); omega) (fun ch hch => by
      rw [List.mem_singleton.1 hch]
      exact ⟨by decide, by decide⟩) (by simp only [List.length_nil]; omega)
  obtain ⟨tx, st, h1, h2, h3, _⟩ := lst_run tiny_right jx_law xs hL (.inl ⟨rfl, rfl, rfl, rfl⟩) (fun h => (by cases h)) hst hr hs (by decide)
  refine ⟨h3, ?_, tx, st, h1⟩
  rcases h2 with ⟨h, _⟩ | ⟨h, _⟩ | ⟨_, h⟩
  · cases h
  · cases h
  · exact h
theorem load_epoch {w1 W0 : World} {hb : Nat} {S : PHeap} {F : Nat → Prop} {K : List (Nat × Obj)} {c : PCfg} {tx : Nat → Option ByteArray} {st : Nat → List PVersion} {pn : Nat → Int} {e : Int} (o : OwnK w1 hb S F K W0) (hL : Laid S c tx st pn e) : ∀ W F', OwnK w1 hb S F' K W → Calls Try.prog 19 #[.pointer (some ⟨hb, 0, none⟩), .int .u64 1, .int .i64 0] W fun x w' => x = .returned (.tuple #[.int .u64 e, .int .i64 0]) ∧ ∃ F', OwnK w1 hb S F' K w' := fun W F' h => by
  have h1 := ctl_load h.own.heap hL.epoch
  exact h1.mono fun e w' ⟨he, ht⟩ => ⟨he, _, h.turned ht⟩
theorem reads_change (W : World) (a b : ByteArray) (h : Bool) : Reads (W.alloc (.cells #[.string a, .bool h, .string b] 63)) (W.alloc (.cells #[.string a, .bool h, .string b] 63)).heap.size 3 (some ⟨W.heap.size, 0, none⟩) 1 (chL [⟨a, h, b⟩]) :=
  reads_blk (Blk.new W 63 #[.string a, .bool h, .string b]) 3 rfl |>.more (by simp)
set_option maxRecDepth 100000 in
set_option maxHeartbeats 4000000 in
theorem awake30 (w : World) : Calls Try.prog 6 #[] w fun e w' => e = .returned (.bool true) ∧ Below w.heap.size w w' := by
  have hFd := fun W => field_any tinyC tiny_right W
  have hN0 := fun W => lnNew_at tinyC tiny_right 1 (by decide) (w := W) none 0 0 [] rfl (by decide) ⟨rfl, fun h => absurd h (by decide)⟩ (fun ch h => by cases h)
  have hN1 := fun W A (hr : Reads W W.heap.size 3 A 1 (chL [kChange])) => lnNew_at tinyC tiny_right 2 (by decide) (w := W) A 1 1 [kChange] rfl (by decide) hr (fun ch h => by rw [List.mem_singleton.1 h]; exact ⟨by decide, by decide⟩)
  have hAn := fun W => lnAct_nil W
  rw [tinyVR] at hFd hN0 hN1
  replace hFd := Lib.hid hFd
  replace hN0 := Lib.hid hN0
  replace hN1 := Lib.hid hN1
  replace hAn := Lib.hid hAn
  go_enter Try.func6, Try.ntmps6
  go_wp2_with fail
  refine (tiny_any _).mono ?_; rintro e w1 ⟨rfl, hb1⟩
  have B1 := Blk.new w1 24 #[.int .i64 2, .int .i64 2, .int .i64 3, .int .i64 2, .int .i64 1, .int .u64 0]
  have hz1 : Below w.heap.size w (w1.alloc (.cells #[.int .i64 2, .int .i64 2, .int .i64 3, .int .i64 2, .int .i64 1, .int .u64 0] 24)) := hb1.alloc hb1.size _
  clear hb1
  replace B1 := Lib.hid B1
  replace hz1 := Lib.hid hz1
  go_wp2_with fail
  refine (hFd.out _).mono ?_; rintro e w2 ⟨hb, r, rfl, s2⟩
  obtain ⟨F2, o2⟩ := Own.of_sess s2
  have hF2 := o2.heap.own
  have hz2 := o2.below.size
  simp only [World.size_alloc] at hz2
  have k2 : OwnK (w1.alloc (.cells #[.int .i64 2, .int .i64 2, .int .i64 3, .int .i64 2, .int .i64 1, .int .u64 0] 24)) hb (fieldS tinyC r) F2 [(w1.heap.size, Obj.cells #[.int .i64 2, .int .i64 2, .int .i64 3, .int .i64 2, .int .i64 1, .int .u64 0] 24)] w2 := ⟨o2, fun x hx => by
    rw [List.mem_singleton.1 hx]
    exact ⟨B1.out.below o2.below (by simp), fun h => by have := o2.new _ h; simp only [World.size_alloc] at this; omega⟩⟩
  have C2 := k2.blk (List.mem_singleton.2 rfl)
  have d0 := C2.cell 0
  have d1 := C2.cell 1
  have d2 := C2.cell 2
  have d3 := C2.cell 3
  have d4 := C2.cell 4
  have d5 := C2.cell 5
  clear s2 C2
  replace o2 := Lib.hid o2
  replace k2 := Lib.hid k2
  go_wp2_with fail
  refine (hN0.out _).mono ?_; rintro e w3 ⟨b, rfl, hR3, hb3⟩
  have k3 := k2.out.below hb3
  have hA3 := ralone layRout k3 hR3 hF2 (fun x hx => by rw [List.mem_singleton.1 hx]; show w1.heap.size < w2.heap.size; omega) (by simp only [World.size_alloc]; omega) (by show (0 : Int) ≤ _; decide) (by show (1 : Int) ≤ _; decide) 9 (by decide)
  clear hb3 d0 d1 d2 d3 d4 d5
  replace k3 := Lib.hid k3
  replace hR3 := Lib.hid hR3
  replace hA3 := Lib.hid hA3
  go_wp2_with fail
  refine (hA3.out).mono ?_; rintro e w4 ⟨xs, S4, s4, F4, D4, hRun, hstop, rfl, k4, hR4, hoff4⟩
  obtain ⟨h41, h42, h43, h44, h45⟩ := lay_ex0 (field_laid tinyC tiny_right r) hRun hstop
  have hRs := lnResult_any hR4.2.2
  have hact4 : (layRout.act s4).2 = false := by show (PLay.act s4).2 = false; simp [PLay.act, h41]
  rw [h41, h42] at hRs
  rw [h45, hact4]
  have hl4 : S4.last = 1 := by rw [h44]; rfl
  clear hRun hstop hA3 h41 h42 h44 h45 hact4 hoff4 hR4
  replace k4 := Lib.hid k4
  replace hRs := Lib.hid hRs
  replace h43 := Lib.hid h43
  replace hl4 := Lib.hid hl4
  go_wp2_with fail
  refine (hRs.out).mono ?_; rintro e w5 ⟨rfl, hb5⟩
  have k5 := k4.out.below hb5
  have C5 := k5.blk (List.mem_singleton.2 rfl)
  have d0 := C5.cell 0
  have d1 := C5.cell 1
  have d2 := C5.cell 2
  have d3 := C5.cell 3
  have d4 := C5.cell 4
  have d5 := C5.cell 5
  clear hb5 hRs C5
  replace k5 := Lib.hid k5
  have hNx := hN1.out _ _ (reads_change w5 ⟨#[107]⟩ ⟨#[118]⟩ true)
  replace hNx := Lib.hid hNx
  go_wp2_with fail
  refine (hNx.out).mono ?_; rintro e w6 ⟨b6, rfl, hR6, hb6⟩
  have k6 := k5.out.below ((Below.more_ (Below.refl _ _) (.cells #[.string ⟨#[107]⟩, .bool true, .string ⟨#[118]⟩] 63)).trans (hb6.mono (by simp)))
  have hF5 := k5.out.own.heap.own
  have hz5 := k5.out.own.below.size
  simp only [World.size_alloc] at hz5
  have hk5 := fun x hx => k5.out.lt (x := x) hx
  have hA6 := ralone layRout k6 hR6 (fun k hk => by have := hF5 k hk; simp only [World.size_alloc]; omega) (fun x hx => by have := hk5 x hx; simp only [World.size_alloc]; omega) (by simp only [World.size_alloc]; omega) (by rw [h43.out.faults]; decide) (by rw [hl4.out]; decide) 99 (by decide)
  clear hb6 d0 d1 d2 d3 d4 d5 hF5 hz5 hk5
  replace k6 := Lib.hid k6
  replace hR6 := Lib.hid hR6
  replace hA6 := Lib.hid hA6
  go_wp2_with fail
  refine (hA6.out).mono ?_; rintro e w7 ⟨xs7, S7, s7, F7, D7, hRun, hstop, rfl, k7, hR7, hoff7⟩
  obtain ⟨h71, h72, tx7, st7, h73⟩ := lay_ex1 h43.out (by rw [hl4.out]; decide) hRun hstop
  have hRs := lnResult_any hR7.2.2
  rw [h71, h72] at hRs
  have hLd := load_epoch k7 h73
  clear hRun hstop hA6 h71 h72 h73 hoff7 hR7
  replace k7 := Lib.hid k7
  replace hRs := Lib.hid hRs
  replace hLd := Lib.hid hLd
  go_wp2_with fail
  refine (hRs.out).mono ?_; rintro e w8 ⟨rfl, hb8⟩
  have k8 := k7.out.below hb8
  clear hb8 hRs
  replace k8 := Lib.hid k8
  go_wp2_with fail
  refine (hLd.out _ _ k8.out).mono ?_; rintro e w9 ⟨rfl, F9, k9⟩
  replace k9 := Lib.hid k9
  go_wp2_with fail
  refine (hAn.out _).mono ?_; rintro e w10 ⟨rfl, hb10⟩
  have k10 := (k9.out.below hb10).add (.cells #[.int .i64 0, .int .u64 0, .int .i64 0, .int .u64 0, .int .u64 0, .string ⟨#[]⟩] 48)
  clear hb10
  replace k10 := Lib.hid k10
  go_wp2_with fail
  go_ret
  exact ⟨rfl, hz1.out.trans (k10.out.own.below.mono hz1.out.size)⟩
end Go.Proofs.Ytmlnhjfdhjachaa

/-
  Reading all keys alone: what it turns in the heap. No condition.
-/
namespace Go.Proofs.Ytmlnhjfdhjachaa
set_option linter.unusedVariables false
open Go.ChangeShapes Go.WideShapes Go.ChangeAt Go.RowKit
open Go.ChangeMaps (setBlock)

theorem view_alone2 {S S' : PHeap} {s' : PView} {xs : List (PAct × PGot)} {m th e : Int} {c : PCfg} {tx : Nat → Option ByteArray} {st : Nat → List PVersion} {pn : Nat → Int} (hc : c.Right) (hth : 0 ≤ th) (hL : Laid S c tx st pn e) (hfree : ∀ j : Nat, (j : Int) < c.pins → pn j = 0) (L : Nat) (hL100 : L ≤ 100) (hlen : ∀ j, (st j).length ≤ L)
    (h : Runs viewRout S (newView c th) xs S' s') (hst : m ≤ (xs.length : Nat) ∨ viewRout.can S' s' = false) (hm : c.shelves * (4 + 2 * (L : Int)) + 20 ≤ m) :
    s'.part = 6 ∧ s'.code = 0 ∧ s'.seen = seenAt e tx st c.shelves.toNat ∧ s'.mark = 3 ∧ Laid S' c tx st pn e ∧ S'.last = S.last ∧ S'.blocks.length = S.blocks.length ∧ xs.length = 4 + actsFrom e tx st c.shelves.toNat 0 ∧ ∃ (j : Nat) (a : Int), (j : Int) < c.pins ∧ S' = (S.set 1 (3 + j) a).set 1 (3 + j) 0 := by
  have hp := hc.pins
  have hsh := hc.shelves
  have hdl : (0 : Int) ≤ c.shelves * (4 + 2 * (L : Int)) := Int.mul_nonneg (by omega) (by omega)
  generalize hP : c.shelves * (4 + 2 * (L : Int)) = P at *
  rw [newView_vw c hc] at h
  -- the pin
  have W1 : Within (pinRout c).act (pinRout c).take viewRout.act viewRout.take (fun k s => (vw1 c k s).settle1) := vwithin1 c
  obtain ⟨x1, x2, S1, s1, rfl, r1, r2, d1⟩ := runs_split W1 xs 0 (newPin c th) h
  have st1 := split_stop W1 r2 d1 hst
  have g1 := pin_alone hc hth hL.epoch hL.pins r1 st1 (by omega)
  have hff : pn (th % c.pins).toNat = 0 := hfree _ (by have := Int.emod_nonneg th (b := c.pins) (by omega); have := Int.emod_lt_of_pos th (b := c.pins) (by omega); omega)
  obtain ⟨j, hj, hp5, htk, hpi, hep, hS1, hl1⟩ : ∃ j : Nat, (j : Int) < c.pins ∧ s1.part = 5 ∧ s1.taken = false ∧ s1.pin = j ∧ s1.epoch = e ∧ S1 = S.set 1 (3 + j) (IntKind.u64.wrap (e + 1)) ∧ x1.length = 3 := by
    rcases g1 with ⟨j, i, ⟨i1, i2, i3, i4⟩, j1, j2, j3, j4, j5, j6, j7, j8⟩ | ⟨j1, _⟩
    · have hi0 : i = 0 := by
        rcases Int.lt_or_eq_of_le i1 with h | h
        · exact absurd (by rw [Int.add_zero, Int.emod_emod_of_dvd _ (Int.dvd_refl _)]; exact hff) (i4 0 (Int.le_refl _) h)
        · exact h.symm
      exact ⟨j, j1, j3, j4, j5, j6, j7, by omega⟩
    · exact absurd (hfree 0 (by omega)) (j1 0 (by omega))
  have hst2 := rest_stop hst
  have hne : ¬ (0 : Int) = c.shelves := by omega
  have e2 : (vw1 c (0 + x1.length) s1).settle1 = vw2 c s1 3 3 ((0 : Nat) : Int) 0 ByteArray.empty (newChain 0 0) (seenAt e tx st 0) := by
    rw [hl1]
    simp [PView.settle1, vw1, hp5, htk, vw2, hne, seenAt]
  rw [e2] at r2
  have hL1 : Laid S1 c tx st (fun i => if i = j then IntKind.u64.wrap (e + 1) else pn i) e := by rw [hS1]; exact hL.pin hc j hj _
  have hcs : ((c.shelves.toNat : Nat) : Int) = c.shelves := by omega
  obtain ⟨k1, k2, k3, k4, k5, k6⟩ := view_run hc hL1 L hL100 hlen hj hpi hep c.shelves.toNat 0 (by omega) r2 hst2 (by rw [hcs, hP]; omega)
  refine ⟨k1, k2, by rw [k3, Nat.add_zero], by rw [k4]; exact wrap_small 3 (by decide), ?_, by rw [k5, hS1]; rfl, ?_, ?_⟩
  · rw [k5]
    refine (hL1.pin hc j hj 0).alike fun i hi => ?_
    by_cases hij : i = j
    · rw [if_pos hij, hij]; exact (hfree j hj).symm
    · rw [if_neg hij, if_neg hij]
  · rw [k5, hS1]
    simp [PHeap.set]
  · refine ⟨?_, j, IntKind.u64.wrap (e + 1), hj, by rw [k5, hS1]⟩
    rw [List.length_append, hl1, k6]
    omega
end Go.Proofs.Ytmlnhjfdhjachaa

/-
  The walk of LayHidden (layer 30). No condition.
-/
namespace Go.Proofs.Ytmlnhjfdhjachaa
set_option linter.unusedVariables false
open Go.ChangeShapes Go.WideShapes Go.ChangeAt Go.RowKit
open Go.ChangeMaps (setBlock)

section
variable {σ τ : Type} {R1 : Rout σ} {R2 : Rout τ} {w0 w w5 : World} {hb b1 b2 : Nat} {S : PHeap} {F : Nat → Prop} {K : List (Nat × Obj)} {s1 : σ} {s2 : τ}
/-- A second routine is made. -/
theorem Duo.two (h : Duo R1 w0 hb S F K b1 s1 w5) (hbl : Below w5.heap.size w5 w) (h2 : RAt R2 w5.heap.size w b2 s2) : Two R1 R2 w0 hb S F K b1 s1 b2 s2 w := by
  obtain ⟨D1, k1, k2, k3, k4⟩ := h.rt
  obtain ⟨D2, j1, j2⟩ := h2
  refine ⟨h.own.below hbl, D1, D2, R1.below k1 hbl, j1, k2, fun k hF hD => by have := h.own.own.heap.own k hF; have := j2 k hD; omega, fun k h1 h2 => by have := R1.own k1 k h1; have := j2 k h2; omega, fun k hk => ?_, fun x hx => ⟨k4 x hx, fun hD => by have := h.own.lt hx; have := j2 _ hD; omega⟩⟩
  rcases hk with hk | hk
  · exact k3 k hk
  · have := j2 k hk; have := h.own.own.below.size; omega
theorem Two.drop (h : Two R1 R2 w0 hb S F K b1 s1 b2 s2 w) : Duo R1 w0 hb S F K b1 s1 w := by
  obtain ⟨D1, D2, h1, h2, h3, h4, h5, h6, h7⟩ := h.rt
  exact ⟨h.own, D1, h1, h3, fun k hk => h6 k (.inl hk), fun x hx => (h7 x hx).1⟩
end
theorem seen_len (e : Int) (tx : Nat → Option ByteArray) (st : Nat → List PVersion) : ∀ n, (seenAt e tx st n).length ≤ n
  | 0 => Nat.le_refl _
  | n + 1 => by
    have ih := seen_len e tx st n
    unfold seenAt
    split
    · omega
    · split
      · have := putM_len (seenAt e tx st n) (by assumption) (readV e (st n) 0).1.2.1
        omega
      · omega
/-- Between two acts. -/
def HR (w1 : World) (c : PCfg) (hb b : Nat) (K : List (Nat × Obj)) (m : List (ByteArray × ByteArray)) (iv : Value) (wr : World) : Prop :=
  ∃ (n : Nat) (S : PHeap) (F : Nat → Prop) (tx : Nat → Option ByteArray) (st : Nat → List PVersion) (s : PLay) (half : Option Nat) (nn : Int), n ≤ 1000 ∧ iv = .int .i64 n ∧ Duo layRout w1 hb S F K b s wr ∧ Laid S c tx st (fun _ => 0) 1 ∧ JH c 20 2 1 true m s.l half s.laid tx st ∧ LSt c 2 S tx st (fun _ => 0) 1 s half nn ∧ s.part ≠ 8 ∧ nn + n ≤ 900 ∧ S.last ≤ 20000 + n
set_option maxRecDepth 100000 in
set_option maxHeartbeats 8000000 in
theorem lhSmall (A A2 : Option Addr) (len len2 cap cap2 : Nat) (c : PCfg) (hR : c.right = false) (w : World) :
    Calls Try.prog 3 #[c.val, .slice A len cap, .slice A2 len2 cap2] w fun e w' => e = .returned (.bool true) ∧ Below w.heap.size w w' := by
  have hCV : c.val = .agg #[.int .i64 c.cap, .int .i64 c.pins, .int .i64 c.shelves, .int .i64 c.queue, .int .i64 c.watchers, .int .u64 c.seed] := rfl
  have hRR := fun W => right_cfg c W
  rw [hR] at hRR
  have hz : Below w.heap.size w (w.alloc (.cells #[.int .i64 c.cap, .int .i64 c.pins, .int .i64 c.shelves, .int .i64 c.queue, .int .i64 c.watchers, .int .u64 c.seed] 24)) := (Below.refl _ _).alloc (Nat.le_refl _) _
  have B0 := Blk.new w 24 #[.int .i64 c.cap, .int .i64 c.pins, .int .i64 c.shelves, .int .i64 c.queue, .int .i64 c.watchers, .int .u64 c.seed]
  have c0 := B0.cell 0
  have c1 := B0.cell 1
  have c2 := B0.cell 2
  have c3 := B0.cell 3
  have c4 := B0.cell 4
  have c5 := B0.cell 5
  rw [hCV] at hRR ⊢
  clear hCV
  replace hRR := Lib.hid hRR
  replace hz := Lib.hid hz
  replace B0 := Lib.hid B0
  go_enter Try.func3, Try.ntmps3
  go_wp2_with fail
  refine (hRR.out _).mono ?_; rintro e w1 ⟨rfl, hb1⟩
  go_wp2_with fail
  refine (awake30 _).mono ?_; rintro e w7 ⟨rfl, hb7⟩
  go_wp2_with fail
  go_ret
  have h1 := nx hz.out (Nat.le_refl _) hb1
  exact ⟨rfl, h1.trans (hb7.mono h1.size)⟩
set_option maxRecDepth 100000 in
set_option maxHeartbeats 8000000 in
theorem lhWalk (A A2 : Option Addr) (len len2 cap cap2 : Nat) (ls ls2 : List PChange) (hlen : ls.length = len) (hlen2 : ls2.length = len2) (hmax : len ≤ maxLen) (hmax2 : len2 ≤ maxLen) (c : PCfg) (hR : c.Right) (w : World) (hr : Reads w w.heap.size 3 A len (chL ls)) (hr2 : Reads w w.heap.size 3 A2 len2 (chL ls2)) :
    Calls Try.prog 3 #[c.val, .slice A len cap, .slice A2 len2 cap2] w fun e w' => e = .returned (.bool true) ∧ Below w.heap.size w w' := by
  have hCV : c.val = .agg #[.int .i64 c.cap, .int .i64 c.pins, .int .i64 c.shelves, .int .i64 c.queue, .int .i64 c.watchers, .int .u64 c.seed] := rfl
  have hRR := fun W => right_cfg c W
  rw [(PCfg.right_iff c).2 hR] at hRR
  have hz : Below w.heap.size w (w.alloc (.cells #[.int .i64 c.cap, .int .i64 c.pins, .int .i64 c.shelves, .int .i64 c.queue, .int .i64 c.watchers, .int .u64 c.seed] 24)) := (Below.refl _ _).alloc (Nat.le_refl _) _
  have B0 := Blk.new w 24 #[.int .i64 c.cap, .int .i64 c.pins, .int .i64 c.shelves, .int .i64 c.queue, .int .i64 c.watchers, .int .u64 c.seed]
  have hFd := fun W => field_any c hR W
  have hNv := fun n hn W => viewNew_at c n hn W
  have hS1 : ∀ W, Below w.heap.size w W → _ := fun W (h : Below w.heap.size w W) => short30_any A len cap ls hlen hmax 8 (by decide) W ((hr.below h).more h.size)
  have hS2 : ∀ W, Below w.heap.size w W → _ := fun W (h : Below w.heap.size w W) => short30_any A2 len2 cap2 ls2 hlen2 hmax2 6 (by decide) W ((hr2.below h).more h.size)
  have hL1 : ((len : Int) ≤ 8 ∧ ∀ ch ∈ ls, ch.key.size ≤ 100 ∧ ch.value.size ≤ 200) → ∀ W, Below w.heap.size w W → _ := fun hk W (h : Below w.heap.size w W) => lnNew_at c hR 1 (by decide) (w := W) A len cap ls hlen (by omega) ((hr.below h).more h.size) (fun ch hch => by have := hk.2 ch hch; omega)
  have hL2 : ((len2 : Int) ≤ 6 ∧ ∀ ch ∈ ls2, ch.key.size ≤ 100 ∧ ch.value.size ≤ 200) → ∀ W, Below w.heap.size w W → _ := fun hk W (h : Below w.heap.size w W) => lnNew_at c hR 2 (by decide) (w := W) A2 len2 cap2 ls2 hlen2 (by omega) ((hr2.below h).more h.size) (fun ch hch => by have := hk.2 ch hch; omega)
  rw [hCV] at hRR hFd hNv hL1 hL2 ⊢
  clear hCV
  replace hRR := Lib.hid hRR
  replace hFd := Lib.hid hFd
  replace hNv := Lib.hid hNv
  replace hS1 := Lib.hid hS1
  replace hS2 := Lib.hid hS2
  replace hL1 := Lib.hid hL1
  replace hL2 := Lib.hid hL2
  replace hr := Lib.hid hr
  replace hr2 := Lib.hid hr2
  replace hz := Lib.hid hz
  replace B0 := Lib.hid B0
  replace hlen := Lib.hid hlen
  replace hlen2 := Lib.hid hlen2
  have c0 := B0.out.cell 0
  have c1 := B0.out.cell 1
  have c2 := B0.out.cell 2
  have c3 := B0.out.cell 3
  have c4 := B0.out.cell 4
  have c5 := B0.out.cell 5
  go_enter Try.func3, Try.ntmps3
  go_wp2_with fail
  refine (hRR.out _).mono ?_; rintro e w1 ⟨rfl, hb1⟩
  have C1 := B0.out.below hb1 (by simp)
  have hz1 := nx hz.out (Nat.le_refl _) hb1
  clear hb1 c0 c1 c2 c3 c4 c5
  replace C1 := Lib.hid C1
  replace hz1 := Lib.hid hz1
  go_wp2_with fail
  refine (hS1.out _ hz1.out).mono ?_; rintro e w1' ⟨fb, rfl, hfb, rfl⟩
  cases fb with
  | false =>
    clear hfb
    go_wp2_with fail
    refine (awake30 _).mono ?_; rintro e w7 ⟨rfl, hb7⟩
    go_wp2_with fail
    go_ret
    exact ⟨rfl, Below.next_ hz1.out hb7⟩
  | true =>
  replace hfb := hfb rfl
  replace hfb := Lib.hid hfb
  go_wp2_with fail
  refine (hS2.out _ hz1.out).mono ?_; rintro e w1'' ⟨fb2, rfl, hfb2, rfl⟩
  cases fb2 with
  | false =>
    clear hfb2
    go_wp2_with fail
    refine (awake30 _).mono ?_; rintro e w7 ⟨rfl, hb7⟩
    go_wp2_with fail
    go_ret
    exact ⟨rfl, Below.next_ hz1.out hb7⟩
  | true =>
  replace hfb2 := hfb2 rfl
  replace hfb2 := Lib.hid hfb2
  have c0 := C1.out.cell 0
  have c1 := C1.out.cell 1
  have c2 := C1.out.cell 2
  have c3 := C1.out.cell 3
  have c4 := C1.out.cell 4
  have c5 := C1.out.cell 5
  go_wp2_with fail
  refine (hFd.out _).mono ?_; rintro e w2 ⟨hb, r, rfl, s2⟩
  obtain ⟨F2, o2⟩ := Own.of_sess s2
  have hF2 := o2.heap.own
  have hcw := C1.out.lt
  have hhb := o2.below.size
  have k2 : OwnK w1 hb (fieldS c r) F2 [(w.heap.size, cfgO c)] w2 := ⟨o2, fun x hx => by
    rw [List.mem_singleton.1 hx]
    exact ⟨C1.out.below o2.below hcw, fun h => by have := o2.new _ h; simp only at this; omega⟩⟩
  have hbw : ∀ (W : World) (S : PHeap) (F : Nat → Prop) (K : List (Nat × Obj)), OwnK w1 hb S F K W → Below w.heap.size w W := fun W S F K h => al1_below hz1.out h
  have hKc : ∀ (W : World) (S : PHeap) (F : Nat → Prop) (K : List (Nat × Obj)), (w.heap.size, cfgO c) ∈ K → OwnK w1 hb S F K W → (W.cell? ⟨w.heap.size, 0, none⟩ = some (.int .i64 c.cap) ∧ W.cell? ⟨w.heap.size, 1, none⟩ = some (.int .i64 c.pins) ∧ W.cell? ⟨w.heap.size, 2, none⟩ = some (.int .i64 c.shelves) ∧ W.cell? ⟨w.heap.size, 3, none⟩ = some (.int .i64 c.queue) ∧ W.cell? ⟨w.heap.size, 4, none⟩ = some (.int .i64 c.watchers) ∧ W.cell? ⟨w.heap.size, 5, none⟩ = some (.int .u64 c.seed)) := fun W S F K hmK h => by
    have hB : Blk W w.heap.size 24 #[.int .i64 c.cap, .int .i64 c.pins, .int .i64 c.shelves, .int .i64 c.queue, .int .i64 c.watchers, .int .u64 c.seed] := (h.keep _ hmK).1
    exact ⟨hB.cell 0, hB.cell 1, hB.cell 2, hB.cell 3, hB.cell 4, hB.cell 5⟩
  have hw2 := hbw _ _ _ _ k2
  obtain ⟨d0, d1, d2, d3, d4, d5⟩ := hKc _ _ _ _ (List.mem_singleton.2 rfl) k2
  have hN := hL1.out hfb.out
  clear s2 c0 c1 c2 c3 c4 c5
  replace o2 := Lib.hid o2
  replace k2 := Lib.hid k2
  replace hbw := Lib.hid hbw
  replace hKc := Lib.hid hKc
  replace hw2 := Lib.hid hw2
  replace hN := Lib.hid hN
  go_wp2_with fail
  refine (hN.out _ hw2.out).mono ?_; rintro e w3 ⟨b3, rfl, hR3, hb3⟩
  have k3 := k2.out.below hb3
  have hA3 := ralone layRout k3 hR3 hF2 (fun x hx => by rw [List.mem_singleton.1 hx]; show w.heap.size < w2.heap.size; omega) (by omega) (by show (0 : Int) ≤ _; decide) (by show (1 : Int) ≤ _; decide) 10000 (by decide)
  clear hb3 d0 d1 d2 d3 d4 d5 hN hF2
  replace k3 := Lib.hid k3
  replace hR3 := Lib.hid hR3
  replace hA3 := Lib.hid hA3
  go_wp2_with fail
  refine (hA3.out).mono ?_; rintro e w4 ⟨xs, S4, s4, F4, D4, hRun, hstop, rfl, k4, hR4, hoff4⟩
  obtain ⟨tx4, st4, h41, h42, hl4⟩ : ∃ tx4 st4, Laid S4 c tx4 st4 (fun _ => 0) 1 ∧ JH c ls.length 1 0 false [] [] none s4.laid tx4 st4 ∧ S4.last ≤ 2000 := by
    have hll := hlen.out
    have hk1 := hfb.out
    obtain ⟨n0, g1, g2, g3, g4, g5⟩ := lst_start hR (ep := 1) (S := fieldS c r) (tx := fun _ => none) (st := fun _ => []) (pn := fun _ => 0) (e := 0) (l := ls) (fun ch hch => by have := hk1.2 ch hch; omega) (by show (1 : Int) + _ ≤ _; omega)
    obtain ⟨tx4, st4, j1, j2, j3, j4⟩ := lst_run hR (jh_law c ls.length 1 0 false [] (fun h => (by cases h))) xs (field_laid c hR r) (by rw [g4, g3]; exact jh_none c 1 ls []) (fun h => absurd h g5) g1 hRun hstop (by omega)
    have hbd := (Runs.bounds layRout hRun).2
    have h1 : (fieldS c r).last = 1 := rfl
    exact ⟨tx4, st4, j1, j2, by omega⟩
  have hst4 : ∀ j, (st4 j).length ≤ 8 := fun j => by have h1 := h42.len j; have h2 := hfb.out.1; have h3 := hlen.out; simp at h1; omega
  obtain ⟨m, hm⟩ : ∃ m, seenAt 1 tx4 st4 c.shelves.toNat = m := ⟨_, rfl⟩
  have hml : (putAll [] m).length ≤ 64 := by
    have h1 := putAll_len m []
    have h2 := seen_len 1 tx4 st4 c.shelves.toNat
    have h3 := hR.shelves
    rw [hm] at h2
    simp at h1
    omega
  have hF4 := k4.own.heap.own
  have hft4 := h41.faults
  have hsz4 := k4.own.below.size
  have hK4 := fun x hx => k4.lt (x := x) hx
  obtain ⟨d0, d1, d2, d3, d4, d5⟩ := hKc.out _ _ _ _ (List.mem_singleton.2 rfl) k4
  have hNv0 := hNv.out 0 (by decide)
  clear hRun hstop hA3 hoff4 hR4
  replace k4 := Lib.hid k4
  replace h41 := Lib.hid h41
  replace h42 := Lib.hid h42
  replace hl4 := Lib.hid hl4
  replace hst4 := Lib.hid hst4
  replace hm := Lib.hid hm
  replace hft4 := Lib.hid hft4
  replace hNv0 := Lib.hid hNv0
  replace hK4 := Lib.hid hK4
  go_wp2_with fail
  refine (hNv0.out _).mono ?_; rintro e w5 ⟨b5, rfl, hR5, hb5⟩
  have k5 := k4.out.below hb5
  have hA5 := ralone viewRout k5 hR5 hF4 hK4.out hsz4 (by rw [hft4.out]; decide) (by have := hl4.out; omega) 10000 (by decide)
  clear hb5 d0 d1 d2 d3 d4 d5 hF4
  replace k5 := Lib.hid k5
  replace hR5 := Lib.hid hR5
  replace hA5 := Lib.hid hA5
  go_wp2_with fail
  refine (hA5.out).mono ?_; rintro e w6 ⟨xs6, S6, s6, F6, D6, hRun, hstop, rfl, k6, hR6, hoff6⟩
  obtain ⟨h61, h62, h63, h64, h65, h66, _, _, _⟩ := view_alone2 hR (by decide) h41.out (fun _ _ => rfl) 30 (by decide) (fun j => Nat.le_trans (hst4.out j) (by decide)) hRun hstop (view_most hR)
  have hRs := viewTold_any hR6.2.2
  unfold ViewTold at hRs
  rw [show PView.out _ = putAll [] m from by unfold PView.out; rw [h62, if_pos rfl, h63, hm.out], h62, h64] at hRs
  simp only [h61, if_true] at hRs
  have hl6 : S6.last ≤ 2000 := by rw [h66]; exact hl4.out
  clear hRun hstop hA5 h61 h62 h63 h64 h66 hoff6 hR6
  replace k6 := Lib.hid k6
  replace hRs := Lib.hid hRs
  replace h65 := Lib.hid h65
  go_wp2_with fail
  refine (hRs.out).mono ?_; rintro e w7 ⟨vA, vc, rfl, hown, hb7⟩
  obtain ⟨Kr, hKr1, hKr2⟩ := own_keep hown
  have k7 := k6.out.below hb7
  have k8 : OwnK w1 hb S6 F6 ((w7.heap.size, Obj.cells #[.int .i64 0, .int .i64 0, .int .i64 0, .bool false, .string ⟨#[]⟩, .slice vA (putAll [] m).length vc, .int .i64 0, .slice none 0 0, .int .i64 3, .int .u64 0] 44) :: (Kr ++ [(w.heap.size, cfgO c)])) (w7.alloc (.cells #[.int .i64 0, .int .i64 0, .int .i64 0, .bool false, .string ⟨#[]⟩, .slice vA (putAll [] m).length vc, .int .i64 0, .slice none 0 0, .int .i64 3, .int .u64 0] 44)) := (k7.join fun x hx => ⟨(hKr1 x hx).1, fun hF => by have := k6.out.own.heap.own _ hF; have := (hKr1 x hx).2; omega⟩).add _
  have hw8 := hbw.out _ _ _ _ k8
  obtain ⟨d0, d1, d2, d3, d4, d5⟩ := hKc.out _ _ _ _ (by simp) k8
  have hN := hL2.out hfb2.out
  have hF8 := k8.own.heap.own
  have hK8 := fun x hx => k8.lt (x := x) hx
  have hsz8 := k8.own.below.size
  clear hown hb7 k7 hRs hKr1
  replace k8 := Lib.hid k8
  replace hw8 := Lib.hid hw8
  replace hKr2 := Lib.hid hKr2
  replace hN := Lib.hid hN
  replace hF8 := Lib.hid hF8
  replace hK8 := Lib.hid hK8
  replace hsz8 := Lib.hid hsz8
  go_wp2_with fail
  refine (hN.out _ hw8.out).mono ?_; rintro e w9 ⟨b9, rfl, hR9, hb9⟩
  have D9 : Duo layRout w1 hb S6 F6 ((w7.heap.size, Obj.cells #[.int .i64 0, .int .i64 0, .int .i64 0, .bool false, .string ⟨#[]⟩, .slice vA (putAll [] m).length vc, .int .i64 0, .slice none 0 0, .int .i64 3, .int .u64 0] 44) :: (Kr ++ [(w.heap.size, cfgO c)])) b9 (newLay c 2 ls2) w9 := Duo.start (k8.out.below hb9) hR9 hF8.out hK8.out hsz8.out
  clear hb9 d0 d1 d2 d3 d4 d5 hN hR9
  replace D9 := Lib.hid D9
  go_wp2_with fail
  go_loopw [12] (fun iv wr => HR w1 c hb b9 ((w7.heap.size, Obj.cells #[.int .i64 0, .int .i64 0, .int .i64 0, .bool false, .string ⟨#[]⟩, .slice vA (putAll [] m).length vc, .int .i64 0, .slice none 0 0, .int .i64 3, .int .u64 0] 44) :: (Kr ++ [(w.heap.size, cfgO c)])) m iv wr) (fun i _ => 1001 - (intOf i).toNat)
  case atStart =>
    have hll := hlen2.out
    have hk1 := hfb2.out
    have hll1 := hlen.out
    have hk11 := hfb.out
    obtain ⟨n0, g1, g2, g3, g4, g5⟩ := lst_start hR (ep := 2) (S := S6) (tx := tx4) (st := st4) (pn := fun _ => 0) (e := 1) (l := ls2) (fun ch hch => by have := hk1.2 ch hch; omega) (by omega)
    exact ⟨0, S6, F6, tx4, st4, _, none, n0, by omega, rfl, D9.out, h65.out, by
      rw [g4, g3, ← hm.out]
      exact JH.start h42.out (by omega), g1, g5, by omega, by omega⟩
  case round =>
    clear D9 hl6 h65 h42 h41 hl4 hst4 hm
    obtain ⟨n, S, F, tx, st, s, half, nn, hn, rfl, hD, hL, hJ, hSt, h8, hnn, hla⟩ := hrel
    have hnp : 1 ≤ nn := by
      obtain ⟨y, hy⟩ := lst_step hR (jh_law c 20 2 1 true m (fun _ => by decide)) hL hJ hSt h8
      obtain ⟨_, _, _, n', _, _, q, q2⟩ := hy.next 0
      have := q.pos
      omega
    have dn : decide ((n : Int) < 1000) = true := by simp; omega
    have hl63 : (n : Int) + 1 ≤ 9223372036854775807 := by omega
    obtain ⟨⟨ak, ab, ac, ao, an, at1⟩, hy⟩ := lst_step hR (jh_law c 20 2 1 true m (fun _ => by decide)) hL hJ hSt h8
    have hact : layRout.act s = (⟨ak, ab, ac, ao, an, at1⟩, true) := hy.act
    have hstp := lst_stamp hR hSt h8
    rw [show s.act = (⟨ak, ab, ac, ao, an, at1⟩, true) from hact] at hstp
    simp only at hstp
    have hcA : Calls Try.prog 12 #[.pointer (some ⟨b9, 0, none⟩)] wr fun e w' => e = .returned (.tuple #[.agg #[.int .i64 ak, .int .u64 ab, .int .i64 ac, .int .u64 ao, .int .u64 an, .string at1], .bool true]) ∧ Below wr.heap.size wr w' := by
      obtain ⟨D, h1, _⟩ := hD.rt
      have h2 := layRout.cAct h1
      rw [hact] at h2
      exact h2
    have hft := hL.faults
    have hjl : ∀ j, (st j).length ≤ 30 := fun j => by have h1 := hJ.len j; split at h1 <;> omega
    have hse := hJ.seen rfl
    replace hD := Lib.hid hD
    replace hL := Lib.hid hL
    replace hJ := Lib.hid hJ
    replace hSt := Lib.hid hSt
    replace hy := Lib.hid hy
    replace hact := Lib.hid hact
    replace hstp := Lib.hid hstp
    replace hcA := Lib.hid hcA
    replace hft := Lib.hid hft
    replace hjl := Lib.hid hjl
    replace hse := Lib.hid hse
    replace h8 := Lib.hid h8
    go_wp2_with fail
    refine (hcA.out).mono ?_; rintro e w10 ⟨rfl, hb10⟩
    have D10 := (hD.out.below hb10).add (.cells #[.int .i64 ak, .int .u64 ab, .int .i64 ac, .int .u64 ao, .int .u64 an, .string at1] 48)
    obtain ⟨d0, d1, d2, d3, d4, d5⟩ := hKc.out _ _ _ _ (by simp) D10.own
    have hNv1 := hNv.out (n : Int) ⟨by omega, by omega⟩
    clear hb10 hcA hD
    replace D10 := Lib.hid D10
    replace hNv1 := Lib.hid hNv1
    go_wp2_with fail
    refine (hNv1.out _).mono ?_; rintro e w11 ⟨b11, rfl, hR11, hb11⟩
    have T11 := (D10.out.two hb11 hR11).swap
    have hA11 := T11.alone (by rw [hft.out]; decide) (by omega) 10000 (by decide)
    clear hb11 hR11 d0 d1 d2 d3 d4 d5
    replace T11 := Lib.hid T11
    replace hA11 := Lib.hid hA11
    go_wp2_with fail
    refine (hA11.out).mono ?_; rintro e w12 ⟨xs12, S12, s12, F12, hRun, hstop, rfl, T12⟩
    obtain ⟨h61, h62, h63, h64, h65, h66, _, _, j12, a12, hj12, hS12⟩ := view_alone2 hR (by omega) hL.out (fun _ _ => rfl) 30 (by decide) hjl.out hRun hstop (view_most hR)
    have hSt12 := hSt.out.viewed hR j12 hj12 a12
    rw [← hS12] at hSt12
    have hRs : Calls Try.prog 11 #[.pointer (some ⟨b11, 0, none⟩)] w12 (ViewTold w12 s12) := by
      obtain ⟨D1, D2, q1, _⟩ := T12.rt
      exact viewTold_any q1.2.2
    unfold ViewTold at hRs
    rw [show PView.out _ = putAll [] m from by unfold PView.out; rw [h62, if_pos rfl, h63, hse.out], h62, h64] at hRs
    simp only [h61, if_true] at hRs
    have D12 := T12.swap.drop
    have hla12 : S12.last ≤ 20000 + n := by rw [h66]; exact hla
    clear hRun hstop hA11 h61 h62 h63 h64 h66 T12 hS12 hj12 T11
    replace D12 := Lib.hid D12
    replace hRs := Lib.hid hRs
    replace h65 := Lib.hid h65
    replace hSt12 := Lib.hid hSt12
    go_wp2_with fail
    refine (hRs.out).mono ?_; rintro e w13 ⟨vA2, vc2, rfl, hown, hb13⟩
    have D13 := (D12.out.below hb13).add (.cells #[.int .i64 0, .int .i64 0, .int .i64 0, .bool false, .string ⟨#[]⟩, .slice vA2 (putAll [] m).length vc2, .int .i64 0, .slice none 0 0, .int .i64 3, .int .u64 0] 44)
    have hTd : Blk (w13.alloc (.cells #[.int .i64 0, .int .i64 0, .int .i64 0, .bool false, .string ⟨#[]⟩, .slice vA2 (putAll [] m).length vc2, .int .i64 0, .slice none 0 0, .int .i64 3, .int .u64 0] 44)) w7.heap.size 44 #[.int .i64 0, .int .i64 0, .int .i64 0, .bool false, .string ⟨#[]⟩, .slice vA (putAll [] m).length vc, .int .i64 0, .slice none 0 0, .int .i64 3, .int .u64 0] := (D13.own.keep (w7.heap.size, Obj.cells #[.int .i64 0, .int .i64 0, .int .i64 0, .bool false, .string ⟨#[]⟩, .slice vA (putAll [] m).length vc, .int .i64 0, .slice none 0 0, .int .i64 3, .int .u64 0] 44) (by simp)).1
    have hTe := Blk.new w13 44 #[.int .i64 0, .int .i64 0, .int .i64 0, .bool false, .string ⟨#[]⟩, .slice vA2 (putAll [] m).length vc2, .int .i64 0, .slice none 0 0, .int .i64 3, .int .u64 0]
    have t5 := hTd.cell 5
    have u5 := hTe.cell 5
    have hrA := (Reads.of_own hown).alloc (Nat.le_refl _) (.cells #[.int .i64 0, .int .i64 0, .int .i64 0, .bool false, .string ⟨#[]⟩, .slice vA2 (putAll [] m).length vc2, .int .i64 0, .slice none 0 0, .int .i64 3, .int .u64 0] 44)
    have hrB := Reads.of_own (hKr2.out (w13.alloc (.cells #[.int .i64 0, .int .i64 0, .int .i64 0, .bool false, .string ⟨#[]⟩, .slice vA2 (putAll [] m).length vc2, .int .i64 0, .slice none 0 0, .int .i64 3, .int .u64 0] 44)) fun x hx => (D13.own.keep x (by simp [hx])).1)
    have hSm := same06_any (cap := vc2) (cap' := vc) rfl (by omega) (hrA.more (by simp)) hrB
    have hlT := hTd.lt
    clear hb13 hRs hown D12 hTd hTe hrA hrB
    replace D13 := Lib.hid D13
    replace hSm := Lib.hid hSm
    go_wp2_with fail
    refine (hSm.out).mono ?_; rintro e w14 ⟨rfl, hb14⟩
    have D14 := D13.out.below hb14
    have hNx := D14.next2 (by rw [h65.out.faults]; decide) (by omega)
    clear hb14 hSm t5 u5 hlT D13
    replace D14 := Lib.hid D14
    replace hNx := Lib.hid hNx
    go_wp2_with fail
    refine (hNx.out).mono ?_; rintro e w15 ⟨⟨xk, xb, xc, xo, xn, xt⟩, ⟨gw, gt⟩, is, S15, F15, s15, rfl, D15, hka, hdid⟩
    rw [show stepV 0 ⟨xk, xb, xc, xo, xn, xt⟩ ⟨gw, gt⟩ = .agg #[.int .i64 0, .int .i64 xk, .int .u64 xb, .int .i64 xc, .int .u64 xo, .int .u64 xn, .string xt, .int .u64 gw, .string gt] from rfl]
    obtain ⟨y12, hy12⟩ := lst_step hR (jh_law c 20 2 1 true m (fun _ => by decide)) h65.out hJ.out hSt12.out h8.out
    have hcan : layRout.can S12 s = true := by
      unfold Rout.can
      rw [show layRout.act s = (y12, true) from hy12.act, show S12.ready (y12, true).1 = true from hy12.ready]
      rfl
    obtain ⟨rfl, r15, hS15, hs15⟩ : is = true ∧ ∃ r, S15 = (S12.act (layRout.act s).1 r).2 ∧ s15 = layRout.take s (S12.act (layRout.act s).1 r).1 := by
      rcases hdid with ⟨_, h, _⟩ | ⟨h1, _, h2⟩
      · rw [hcan] at h; cases h
      · exact ⟨h1, h2⟩
    have hb15 : S15.last ≤ S12.last + 1 := by
      have := (Runs.bounds layRout (xs := [((layRout.act s).1, (S12.act (layRout.act s).1 r15).1)]) (S := S12) (S1 := S15) (s := s) (s1 := s15) ⟨hcan, r15, rfl, hS15.symm, hs15.symm⟩).2
      simpa using this
    rw [show layRout.act s = (y12, true) from hy12.act] at hS15 hs15
    obtain ⟨tx15, st15, half15, n15, q1, q2, q3, q4⟩ := hy12.next r15
    rw [← show S15 = (S12.act y12 r15).2 from hS15, ← show s15 = s.take (S12.act y12 r15).1 from hs15] at q3
    rw [← show S15 = (S12.act y12 r15).2 from hS15] at q1
    rw [← show s15 = s.take (S12.act y12 r15).1 from hs15] at q2
    have D16 := D15.add (.cells #[.int .i64 0, .int .i64 xk, .int .u64 xb, .int .i64 xc, .int .u64 xo, .int .u64 xn, .string xt, .int .u64 gw, .string gt] 55)
    have hAb : Blk (w15.alloc (.cells #[.int .i64 0, .int .i64 xk, .int .u64 xb, .int .i64 xc, .int .u64 xo, .int .u64 xn, .string xt, .int .u64 gw, .string gt] 55)) w10.heap.size 48 #[.int .i64 ak, .int .u64 ab, .int .i64 ac, .int .u64 ao, .int .u64 an, .string at1] := (D16.own.keep (w10.heap.size, Obj.cells #[.int .i64 ak, .int .u64 ab, .int .i64 ac, .int .u64 ao, .int .u64 an, .string at1] 48) (by simp)).1
    have a0 := hAb.cell 0
    have a1 := hAb.cell 1
    have a2 := hAb.cell 2
    have hlA := hAb.lt
    have D17 := D16.less.less.less
    have hw17 := hbw.out _ _ _ _ D17.own
    have hRl : Calls Try.prog 15 #[.pointer (some ⟨b9, 0, none⟩)] (w15.alloc (.cells #[.int .i64 0, .int .i64 xk, .int .u64 xb, .int .i64 xc, .int .u64 xo, .int .u64 xn, .string xt, .int .u64 gw, .string gt] 55)) fun e w' => e = .returned (.tuple #[.int .i64 (if s15.part = 8 then s15.laid else 0), .bool (decide (s15.part = 8))]) ∧ Below (w15.alloc (.cells #[.int .i64 0, .int .i64 xk, .int .u64 xb, .int .i64 xc, .int .u64 xo, .int .u64 xn, .string xt, .int .u64 gw, .string gt] 55)).heap.size (w15.alloc (.cells #[.int .i64 0, .int .i64 xk, .int .u64 xb, .int .i64 xc, .int .u64 xo, .int .u64 xn, .string xt, .int .u64 gw, .string gt] 55)) w' := by
      obtain ⟨D, j1, _⟩ := D16.rt
      exact lnResult_any j1.2.2
    have h8b : s15.part = 8 → s.part = 7 ∨ s.part = 8 := by
      intro h
      rw [show s15 = s.take (S12.act y12 r15).1 from hs15] at h
      exact take_eight h
    have h78 : s.part = 7 → s15.part = 8 := by
      intro h
      rw [show s15 = s.take (S12.act y12 r15).1 from hs15]
      unfold PLay.take
      simp [h]
    have hFa := faults_ownK D17.own q1.faults
    clear hdid hka hNx D14 D15 D16 hAb hcan hS15 hs15 hy hy12 hact h65
    replace D17 := Lib.hid D17
    replace hw17 := Lib.hid hw17
    replace hRl := Lib.hid hRl
    replace hFa := Lib.hid hFa
    replace q1 := Lib.hid q1
    replace q2 := Lib.hid q2
    replace q3 := Lib.hid q3
    replace h8b := Lib.hid h8b
    replace h78 := Lib.hid h78
    by_cases h7 : s.part = 7
    · obtain ⟨rfl, rfl, rfl⟩ := hstp.out.1 h7
      have h158 := h78.out h7
      replace hRl := hRl.out
      rw [if_pos h158, decide_eq_true h158] at hRl
      clear h158 h7
      replace hRl := Lib.hid hRl
      go_wp2_with fail
      refine (hRl.out).mono ?_; rintro e w16 ⟨rfl, hb16⟩
      have D18 := D17.out.below hb16
      clear hb16 hRl
      replace D18 := Lib.hid D18
      go_wp2_with fail
      refine (hFa.out _ D18.out.own).mono ?_; rintro e w18 ⟨rfl, rfl⟩
      have hw18 := hbw.out _ _ _ _ D18.out.own
      replace hw18 := Lib.hid hw18
      go_wp2_with fail
      refine (awake30 _).mono ?_; rintro e w19 ⟨rfl, hb19⟩
      go_wp2_with fail
      go_ret
      exact ⟨rfl, Below.next_ hw18.out hb19⟩
    · have hnot := hstp.out.2 h7
      have hrel : HR w1 c hb b9 ((w7.heap.size, Obj.cells #[.int .i64 0, .int .i64 0, .int .i64 0, .bool false, .string ⟨#[]⟩, .slice vA (putAll [] m).length vc, .int .i64 0, .slice none 0 0, .int .i64 3, .int .u64 0] 44) :: (Kr ++ [(w.heap.size, cfgO c)])) m (.int .i64 ((n : Int) + 1)) (w15.alloc (.cells #[.int .i64 0, .int .i64 xk, .int .u64 xb, .int .i64 xc, .int .u64 xo, .int .u64 xn, .string xt, .int .u64 gw, .string gt] 55)) := by
        have q1' := q1.out
        have q3' := q3.out
        rw [if_neg h7] at q1' q3'
        exact ⟨n + 1, S15, F15, tx15, st15, s15, half15, n15, by omega, by simp, D17.out, q1', q2.out, q3', fun h => by
          rcases h8b.out h with h | h
          · exact h7 h
          · exact h8.out h, by omega, by omega⟩
      replace hrel := Lib.hid hrel
      replace h7 := Lib.hid h7
      by_cases e1 : ak = 2
      · subst e1
        by_cases e2 : ab = 1
        · subst e2
          have e3 : (ac == 0) = false := by
            have : ¬ ac = 0 := fun h => hnot ⟨rfl, rfl, h⟩
            simpa using this
          clear hnot
          go_wp2_with fail
          go_roundw
          case rel => exact hrel.out
          case measure => simp [intOf]; omega
        · have e2b : (ab == 1) = false := by simpa using e2
          clear hnot e2
          go_wp2_with fail
          go_roundw
          case rel => exact hrel.out
          case measure => simp [intOf]; omega
      · have e1b : (ak == 2) = false := by simpa using e1
        clear hnot e1
        go_wp2_with fail
        go_roundw
        case rel => exact hrel.out
        case measure => simp [intOf]; omega
theorem lhWalk30 (A A2 : Option Addr) (len len2 cap cap2 : Nat) (ls ls2 : List PChange) (hlen : ls.length = len) (hlen2 : ls2.length = len2) (hmax : len ≤ maxLen) (hmax2 : len2 ≤ maxLen) (c : PCfg) (w : World) (hr : Reads w w.heap.size 3 A len (chL ls)) (hr2 : Reads w w.heap.size 3 A2 len2 (chL ls2)) :
    Calls Try.prog 3 #[c.val, .slice A len cap, .slice A2 len2 cap2] w fun e w' => e = .returned (.bool true) ∧ Below w.heap.size w w' := by
  cases hright : c.right with
  | false => exact lhSmall A A2 len len2 cap cap2 c hright w
  | true => exact lhWalk A A2 len len2 cap cap2 ls ls2 hlen hlen2 hmax hmax2 c ((PCfg.right_iff c).1 hright) w hr hr2
end Go.Proofs.Ytmlnhjfdhjachaa

/-
  The frame that every law's proof shares: a contract that says 'it returns true, and nothing that was there has turned' gives the row's step. And how the arguments are opened. No condition.
-/
namespace Go.Proofs.Ytmlnhjfdhjachaa
set_option linter.unusedVariables false
open Go.ChangeShapes Go.WideShapes Go.ChangeAt Go.RowKit

section
variable {H : Type} {enc : TypeId × Value → H} {P : Program}
theorem stays_all (hl : laidOutB P = true) {W W' : World} (hb : Below W.heap.size W W') {sp : Nat → Bool} :
    ∀ {ts : List TypeId} {vs : List Value} {ds : List (DataW H)} {ps : List MemPlace}, (∀ t ∈ ts, P.readableRec t = true ∧ t < P.types.size) →
      DataW.TrodAll enc P W 0 (fun _ => true) true ts vs ds ps → (∀ p ∈ ps, p.block < W.heap.size ∧ sp p.block = true) → DataW.TrodAll enc P W' 0 sp true ts vs ds ps
  | [], [], [], ps, _, h, _ => h
  | t :: ts, v :: vs, d :: ds, ps, ht, h, hp => by
    obtain ⟨p, q, h1, h2, rfl⟩ := h
    refine ⟨p, q, ?_, ?_, rfl⟩
    · exact WideElems.Trod_stays hl (ht t (by simp)).1 (ht t (by simp)).2 h1 (fun x hx => hb.same (hp x (by simp [hx])).1) (fun x hx => (hp x (by simp [hx])).2)
    · exact stays_all hl hb (fun t' h' => ht t' (by simp [h'])) h2 (fun x hx => hp x (by simp [hx]))
  | [], _ :: _, _, _, _, h, _ => h.elim
  | [], [], _ :: _, _, _, h, _ => h.elim
  | _ :: _, [], _, _, _, h, _ => h.elim
  | _ :: _, _ :: _, [], _, _, h, _ => h.elim

theorem trod_len {w : World} {base : Nat} {sp : Nat → Bool} {held : Bool} : ∀ {ts : List TypeId} {vs : List Value} {ds : List (DataW H)} {ps : List MemPlace}, DataW.TrodAll enc P w base sp held ts vs ds ps → ds.length = ts.length
  | [], [], [], _, _ => rfl
  | _ :: _, _ :: _, _ :: _, _, h => by
    obtain ⟨_, _, _, h2, _⟩ := h
    simp [trod_len h2]
  | [], _ :: _, _, _, h => h.elim
  | [], [], _ :: _, _, h => h.elim
  | _ :: _, [], _, _, h => h.elim
  | _ :: _, _ :: _, [], _, h => h.elim

theorem row_mem (a : Addr) (n : Nat) (h : 0 < n) : MemPlace.cell a.block a.off ∈ MemPlace.row a n := by
  unfold MemPlace.row
  simp
  exact h
theorem list_of_each {α : Type} {R : Nat → α → Prop} : ∀ len : Nat, (∀ i, i < len → ∃ x, R i x) → ∃ xs : List α, xs.length = len ∧ ∀ i x, xs[i]? = some x → R i x
  | 0, _ => ⟨[], rfl, by simp⟩
  | len + 1, each => by
    obtain ⟨xs, hl1, h1⟩ := list_of_each len fun i hil => each i (by omega)
    obtain ⟨x, hx1⟩ := each len (by omega)
    refine ⟨xs ++ [x], by simp [hl1], fun i y hy => ?_⟩
    rcases Nat.lt_or_ge i xs.length with h2 | h2
    · exact h1 i y (by rwa [List.getElem?_append_left h2] at hy)
    · rw [List.getElem?_append_right h2] at hy
      have h3 : i - xs.length = 0 := by
        have := (List.getElem?_eq_some_iff.1 hy).1
        simp at this
        omega
      rw [h3] at hy
      simp at hy
      subst hy
      have : i = len := by omega
      subst this
      exact hx1
/-- A slice among the arguments, nil or not, whatever its elements: as a list of its own. 'hel': how one element's cells read. -/
theorem open_list {α : Type} {w : World} {t e : TypeId} {k : Nat} (mk : α → List Value) (good : α → Prop) {v : Value} {d : DataW H} {ps : List MemPlace} {b0 : Nat} (ht : P.underlying t = some (.slice e)) (hc : P.cellsOf e = k) (hk : 0 < k) (hmk : ∀ x, (mk x).length = k)
    (hel : ∀ (n : Nat) (cs : List Value) (y : DataW H × List MemPlace), cs.length = k → DataW.trod enc P w 0 (fun _ => true) true n e cs = some y → ∃ x, cs = mk x ∧ good x)
    (hv : Value.okWide P w .any b0 t v) (h : DataW.Trod enc P w 0 (fun _ => true) true t v d ps) (hlt : ∀ x ∈ ps, x.block < w.heap.size) :
    ∃ (A : Option Addr) (len cap : Nat) (xs : List α), v = .slice A len cap ∧ len ≤ cap ∧ cap ≤ maxLen ∧ xs.length = len ∧ Reads w w.heap.size k A len (xs.flatMap mk) ∧ ∀ x ∈ xs, good x := by
  obtain ⟨a0, len, cap, rfl⟩ := okWide_slice ht hv
  obtain ⟨fuel, hf⟩ := h
  rcases Deep.open_slice ht hf with ⟨hcs, hx⟩ | ⟨a, len', cap', m, n, D, Pl, hcs, _, hl, hm, hmm, hx, hi⟩
  · simp only [Value.cells] at hcs
    obtain ⟨rfl, rfl, rfl⟩ : a0 = none ∧ len = 0 ∧ cap = 0 := by simpa using hcs
    exact ⟨none, 0, 0, [], rfl, Nat.le_refl _, by unfold maxLen; omega, rfl, Reads.none_, by simp⟩
  · obtain ⟨rfl, rfl, rfl⟩ : a0 = some a ∧ len = len' ∧ cap = cap' := by simpa [Value.cells] using hcs
    simp only [if_true] at hmm
    subst hmm
    rw [hc] at hx hi
    have each : ∀ i, i < len → ∃ x, good x ∧ ∀ j u, (mk x)[j]? = some u → w.cell? (a.add (i * k + j)) = some u := by
      intro i hil
      obtain ⟨cs', h1, h2⟩ := hi i (by omega)
      obtain ⟨_, hcl, hat⟩ := World.cells?_some h1
      obtain ⟨x, rfl, hg⟩ := hel n cs' _ hcl h2
      refine ⟨x, hg, fun j u hu => ?_⟩
      have hj : j < k := by have := (List.getElem?_eq_some_iff.1 hu).1; omega
      rw [← add_of_add, hat j hj]
      exact hu
    obtain ⟨xs, hxl, hxs⟩ := list_of_each len each
    refine ⟨some a, len, _, xs, rfl, hl, hm, hxl, ⟨?_, fun hn => ⟨a, rfl, ?_, fun j u hu => ?_⟩⟩, fun x hx1 => ?_⟩
    · have : ∀ l : List α, (l.flatMap mk).length = l.length * k := by
        intro l
        induction l with
        | nil => simp
        | cons x l ih => rw [List.flatMap_cons, List.length_append, ih, hmk, List.length_cons, Nat.succ_mul]; omega
      rw [this, hxl]
    · simp only [Prod.mk.injEq] at hx
      have hpos : 0 < m * k := Nat.mul_pos (by omega) hk
      have := hlt (.cell a.block a.off) (by rw [hx.2]; exact List.mem_append_left _ (row_mem a _ hpos))
      exact this
    · have hj : j / k * k + j % k = j := Nat.div_add_mod' j k
      rw [← hj, flat_get mk k hmk xs (j / k) (j % k) (Nat.mod_lt _ hk)] at hu
      cases hxi : xs[j / k]? with
      | none => rw [hxi] at hu; cases hu
      | some x =>
        rw [hxi] at hu
        have := (hxs (j / k) x hxi).2 (j % k) u hu
        rwa [hj] at this
    · obtain ⟨i, hil, rfl⟩ := List.getElem_of_mem hx1
      exact (hxs i _ (List.getElem?_eq_getElem hil)).1

theorem rows_of {P : Program} {l : List TypeId} (h : (l.all fun t => P.readableRec t && decide (t < P.types.size)) = true) : ∀ t ∈ l, P.readableRec t = true ∧ t < P.types.size := by
  intro t ht
  have := List.all_eq_true.1 h t ht
  rw [Bool.and_eq_true, decide_eq_true_eq] at this
  exact this

theorem law_lift {C : Checked} {f : FuncId} {fn : Func} {s : ChangeSpec} {os : Os} {B : TypeId} (own : ownKnob C.prog.godebug = none) (started : os.Started) (noInit : C.prog.inits.idxOf? f = none) (hfn : C.prog.funcs[f]? = some fn)
    (hl : laidOutB C.prog = true) (hts : ∀ t ∈ fn.params.toList, C.prog.readableRec t = true ∧ t < C.prog.types.size) (hB : C.prog.underlying B = some .bool) (hrt : fn.resultTypes = #[B]) (hv : s.vars = [])
    (hs : ∀ ds : List (DataW H), ds.length = fn.params.toList.length → (s.fn H ds).results = [.lit (.bool true)] ∧ (s.fn H ds).args = ds ∧ (s.fn H ds).vars = [])
    (witness : ∃ (w : World) (tape : Tape) (i : Input), w.os = os ∧ (w.forCall tape i).Shaped C.prog ∧ i.vars = [] ∧ Input.okWide C.prog (w.forCall tape i) .any w.heap.size f i ∧
      s.pre6 enc C.prog fn [] false (w.forCall tape i).memory i.args ∧ ({} : Assume).holds C.prog (lone (Frame.enter C.prog f i.args .normal) [] (w.forCall tape i)))
    (contract : ∀ (W : World) (base : Nat) (args : Array Value) (ds : List (DataW H)) (p : List MemPlace),
      (∀ (j : Nat) t v, fn.params[j]? = some t → args[j]? = some v → Value.okWide C.prog W .any base t v) →
      DataW.TrodAll enc C.prog W 0 (fun _ => true) true fn.params.toList args.toList ds p → (∀ x ∈ p, x.block < W.heap.size) →
      (DataW.weightsEach C.prog fn.params.toList ds).all (· ≤ reachBytes) = true →
      Calls C.prog f args W fun e W' => e = .returned (.bool true) ∧ Below W.heap.size W W') :
    ReturnsInHanded {} C os f .any (s.pre6 enc C.prog fn [] false) (s.post enc C.prog fn false true false false) := by
  refine returnsInHanded_of_change_sized own started noInit hfn witness ?_
  intro W base args ds gs before hval hW _ hwt _
  have hW' := hW
  have hlt : ∀ x ∈ before, x.block < W.heap.size := fun x hx => hW.lt x hx
  obtain ⟨p, q, hA, hV, rfl, hfz, hnd⟩ := hW
  rw [hv] at hV
  obtain ⟨rfl, rfl⟩ := trodVars_none hV
  have hl2 : ds.length = fn.params.toList.length := trod_len hA
  have hvt : s.plain.varTypes C.prog = [] := by unfold ChangeSpec.plain; rw [hv]; rfl
  rw [hvt] at hwt
  simp only [List.append_nil] at hwt hW' hlt
  obtain ⟨e1, e2, e3⟩ := hs ds hl2
  refine (contract W base args ds p hval hA hlt hwt).mono fun e W' ⟨he, hb⟩ => ?_
  subst he
  refine ⟨_, rfl, post_of_below (pa := p) (pv := []) hW' ?_ ?_ ?_ (by simp) hb ?_⟩
  · intro _ _ _
    simp only [List.append_nil, e1, hrt]
    exact trodAll_cons_mk (shut_bool hB _) trodAll_mk0
  · intro sp hsp
    simp only [List.append_nil, e2]
    exact stays_all hl hb hts hA (fun x hx => ⟨hlt x hx, hsp x hx⟩)
  · intro sp _
    simp only [List.append_nil, e3, hv]
    rfl
  · exact ok_one hrt rfl (okWide_bool_mk hB _)
end
end Go.Proofs.Ytmlnhjfdhjachaa

/-
  How records among the arguments are opened: answers, changes. No condition.
-/
namespace Go.Proofs.Ytmlnhjfdhjachaa
set_option linter.unusedVariables false
open Go.ChangeShapes Go.WideShapes Go.ChangeAt Go.RowKit
section
variable {H : Type} {enc : TypeId × Value → H}
theorem rec_fields {P : Program} {w : World} {base : Nat} {sp : Nat → Bool} {held : Bool} {fuel : Nat} {t : TypeId} {fs : Array Field} {cs : List Value} {x : DataW H × List MemPlace} (ht : P.underlying t = some (.struct fs)) (h : DataW.trod enc P w base sp held fuel t cs = some x) :
    cs.length = P.cellsOf t ∧ ∀ (i : Nat) (f : Field), fs[i]? = some f → ∃ n y, DataW.trod enc P w base sp held n f.type ((cs.drop f.offset).take (P.cellsOf f.type)) = some y := by
  obtain ⟨xs, n, _, _, hl, hlen, hf⟩ := DataW.trod_struct ht h
  refine ⟨hl, fun i f hi => ?_⟩
  have h1 := hf i f hi
  have h2 : i < fs.size := (Array.getElem?_eq_some_iff.mp hi).1
  exact ⟨n, xs[i]'(by omega), h1.trans (List.getElem?_eq_getElem (by omega))⟩
end
end Go.Proofs.Ytmlnhjfdhjachaa

/-
  How a config among the arguments is opened. No condition.
-/
namespace Go.Proofs.Ytmlnhjfdhjachaa
set_option linter.unusedVariables false
open Go.ChangeShapes Go.WideShapes Go.ChangeAt Go.RowKit
section
variable {H : Type} {enc : TypeId × Value → H}
set_option maxRecDepth 100000 in
theorem open_config {w : World} {v : Value} {d : DataW H} {ps : List MemPlace} {b0 : Nat} (hv : Value.okWide Try.prog w .any b0 24 v) (h : DataW.Trod enc Try.prog w 0 (fun _ => true) true 24 v d ps) :
    ∃ c : PCfg, v = c.val ∧ (-9223372036854775808 ≤ c.cap ∧ c.cap ≤ 9223372036854775807) ∧ (0 ≤ c.seed ∧ c.seed ≤ 18446744073709551615) := by
  simp only [Value.okWide, Try.underlying24] at hv
  obtain ⟨cs, rfl, hsz, _⟩ := hv
  obtain ⟨l⟩ := cs
  match l, hsz with
  | [c0, c1, c2, c3, c4, c5], _ =>
    obtain ⟨fuel, hf0⟩ := h
    obtain ⟨_, hf⟩ := rec_fields Try.underlying24 hf0
    obtain ⟨n0, y0, h0⟩ := hf 0 _ rfl
    obtain ⟨n1, y1, h1⟩ := hf 1 _ rfl
    obtain ⟨n2, y2, h2⟩ := hf 2 _ rfl
    obtain ⟨n3, y3, h3⟩ := hf 3 _ rfl
    obtain ⟨n4, y4, h4⟩ := hf 4 _ rfl
    obtain ⟨n5, y5, h5⟩ := hf 5 _ rfl
    obtain ⟨a0, e0, _, w0⟩ := DataW.trod_int Try.underlying3 h0
    obtain ⟨a1, e1, _, w1⟩ := DataW.trod_int Try.underlying3 h1
    obtain ⟨a2, e2, _, w2⟩ := DataW.trod_int Try.underlying3 h2
    obtain ⟨a3, e3, _, w3⟩ := DataW.trod_int Try.underlying3 h3
    obtain ⟨a4, e4, _, w4⟩ := DataW.trod_int Try.underlying3 h4
    obtain ⟨a5, e5, _, w5⟩ := DataW.trod_int Try.underlying22 h5
    have e0' : c0 = .int .i64 a0 := by
      have : [c0] = [Value.int .i64 a0] := e0
      injection this
    have e1' : c1 = .int .i64 a1 := by
      have : [c1] = [Value.int .i64 a1] := e1
      injection this
    have e2' : c2 = .int .i64 a2 := by
      have : [c2] = [Value.int .i64 a2] := e2
      injection this
    have e3' : c3 = .int .i64 a3 := by
      have : [c3] = [Value.int .i64 a3] := e3
      injection this
    have e4' : c4 = .int .i64 a4 := by
      have : [c4] = [Value.int .i64 a4] := e4
      injection this
    have e5' : c5 = .int .u64 a5 := by
      have : [c5] = [Value.int .u64 a5] := e5
      injection this
    subst e0' e1' e2' e3' e4' e5'
    exact ⟨⟨a0, a1, a2, a3, a4, a5⟩, rfl, bounds_i64 w0, bounds_u64 w5⟩
end
end Go.Proofs.Ytmlnhjfdhjachaa

/-
  How rows of changes among the arguments are opened. No condition.
-/
namespace Go.Proofs.Ytmlnhjfdhjachaa
set_option linter.unusedVariables false
open Go.ChangeShapes Go.WideShapes Go.ChangeAt Go.RowKit
section
variable {H : Type} {enc : TypeId × Value → H}
set_option maxRecDepth 100000 in
theorem open_chg {w : World} {base : Nat} {sp : Nat → Bool} {held : Bool} (n : Nat) (cs : List Value) (y : DataW H × List MemPlace) (hl : cs.length = 3) (h : DataW.trod enc Try.prog w base sp held n 63 cs = some y) :
    ∃ c : PChange, cs = [.string c.key, .bool c.has, .string c.value] ∧ (c.key.size ≤ maxLen ∧ c.value.size ≤ maxLen) := by
  obtain ⟨_, hf⟩ := rec_fields Try.underlying63 h
  match cs, hl with
  | [c0, c1, c2], _ =>
    obtain ⟨n0, y0, h0⟩ := hf 0 _ rfl
    obtain ⟨n1, y1, h1⟩ := hf 1 _ rfl
    obtain ⟨n2, y2, h2⟩ := hf 2 _ rfl
    obtain ⟨a, e0, _, w0⟩ := DataW.trod_string Try.underlying9 h0
    obtain ⟨b, e1, _⟩ := DataW.trod_bool Try.underlying4 h1
    obtain ⟨c, e2, _, w2⟩ := DataW.trod_string Try.underlying9 h2
    have e0' : c0 = .string a := by
      have : [c0] = [Value.string a] := e0
      injection this
    have e1' : c1 = .bool b := by
      have : [c1] = [Value.bool b] := e1
      injection this
    have e2' : c2 = .string c := by
      have : [c2] = [Value.string c] := e2
      injection this
    subst e0' e1' e2'
    exact ⟨⟨a, b, c⟩, rfl, w0, w2⟩
end
end Go.Proofs.Ytmlnhjfdhjachaa
