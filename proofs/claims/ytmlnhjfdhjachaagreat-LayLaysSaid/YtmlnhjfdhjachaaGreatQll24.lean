import Derived.Deep.CutRange
import Derived.Deep.RegionHeld3
import Derived.StillTailTactics
import Derived.Test.YtmlnhjfdhjachaaGreatProg
import Derived.Sort.WalkA
import Derived.Sort.WalkA6
import Derived.Sort.WalkC4
import Derived.Lib.Strings
import Derived.Lib.Slices
import Derived.Lib.Small
import Derived.Lib.Walk
import Derived.Lib.BitFns
import Derived.Sort.Walk7
import Derived.Sort.WalkB3
import Derived.Sort.WalkD2
import Derived.Sort.Walk11
import Derived.Sort.Walk13
import Derived.Sort.WalkA14
import Derived.Sort.AssemblyPlain
import Derived.Test.YtmlnhjfdhjachaaGreatRows
import Derived.SizedLaws
import Derived.Lib.SmallJoins
import Derived.Deep.Slices
import Derived.Test.YtmlnhjfdhjachaaGreatQll22
import Derived.Test.YtmlnhjfdhjachaaGreatQll23
/-
  The walk over the law of viewing alone (layer 27). No condition.
-/
namespace Go.Proofs.YtmlnhjfdhjachaaGreat
set_option linter.unusedVariables false
open Go.ChangeShapes Go.WideShapes Go.ChangeAt Go.RowKit
open Go.ChangeMaps (setBlock)

theorem nextP_rises {m : List (ByteArray × ByteArray)} (h : Rises m) (ch : PChange) (le : Bool) : Rises (nextP m ch le) := by
  unfold nextP
  split
  · split
    · exact put_rises _ _ h
    · exact del_rises _ h
  · exact h
theorem faults_ownK {w1 W0 : World} {hb : Nat} {S : PHeap} {F : Nat → Prop} {K : List (Nat × Obj)} (o : OwnK w1 hb S F K W0) (hf : S.faults = 0) : ∀ W, OwnK w1 hb S F K W → Calls Tryz.prog 30 #[.pointer (some ⟨hb, 0, none⟩)] W fun e w' => e = .returned (.int .i64 0) ∧ W = w' :=
  fun W h => by
    have h1 := faults_any h.own.heap
    rw [hf] at h1
    exact h1
end Go.Proofs.YtmlnhjfdhjachaaGreat

/-
  Laying: the examples, and whether a row of changes is short (layer 30). No condition.
-/
namespace Go.Proofs.YtmlnhjfdhjachaaGreat
set_option linter.unusedVariables false
open Go.ChangeShapes Go.WideShapes Go.ChangeAt Go.RowKit
open Go.ChangeMaps (setBlock)

theorem chL_cells {w : World} {B n : Nat} {A : Option Addr} {l : List PChange} (h : Reads w B 3 A n (chL l)) (hn : l.length = n) {k : Nat} (hk : k < n) :
    ∃ ad x, A = some ad ∧ ad.block < B ∧ l[k]? = some x ∧ ∀ W, Below B w W → (W.cell? (ad.add (k * 3)) = some (.string x.key) ∧ W.cell? ⟨(ad.add (k * 3)).block, (ad.add (k * 3)).off + 1, none⟩ = some (.bool x.has) ∧ W.cell? ⟨(ad.add (k * 3)).block, (ad.add (k * 3)).off + 2, none⟩ = some (.string x.value)) := by
  obtain ⟨ch, hch⟩ : ∃ ch, l[k]? = some ch := ⟨_, List.getElem?_eq_getElem (by omega)⟩
  obtain ⟨ad, rfl, hadb, hcl⟩ := h.2 (show 0 < n by omega)
  obtain ⟨q0, q1, q2⟩ := chL_at l k ch hch
  refine ⟨ad, ch, rfl, hadb, hch, fun W hW => ⟨keepc hW hadb (hcl _ _ q0), ?_, ?_⟩⟩
  · have e : (⟨(ad.add (k * 3)).block, (ad.add (k * 3)).off + 1, none⟩ : Addr) = (ad.add (k * 3)).add 1 := rfl
    rw [e, add_of_add]
    exact keepc hW hadb (hcl _ _ q1)
  · have e : (⟨(ad.add (k * 3)).block, (ad.add (k * 3)).off + 2, none⟩ : Addr) = (ad.add (k * 3)).add 2 := rfl
    rw [e, add_of_add]
    exact keepc hW hadb (hcl _ _ q2)
set_option maxRecDepth 100000 in
set_option maxHeartbeats 2000000 in
theorem short30_any (A : Option Addr) (len cap : Nat) (l : List PChange) (hlen : l.length = len) (hmax : len ≤ maxLen) (n : Int) (hn : n ≤ 80) (w : World) (hr : Reads w w.heap.size 3 A len (chL l)) :
    Calls Tryz.prog 32 #[.slice A len cap, .int .i64 n] w fun e w' => ∃ fb : Bool, e = .returned (.bool fb) ∧ (fb = true → (len : Int) ≤ n ∧ ∀ ch ∈ l, ch.key.size ≤ 100 ∧ ch.value.size ≤ 200) ∧ w = w' := by
  have hmax' : len ≤ 9223372036854775807 := by unfold maxLen at hmax; omega
  have done : ∀ k : Nat, (k = len ∨ 80 ≤ k ∧ k < len) → (∀ j, j < k → ∀ x, l[j]? = some x → x.key.size ≤ 100 ∧ x.value.size ≤ 200) → ∀ e : Ending, ∀ w', e = .returned (.bool (decide ((len : Int) ≤ n))) → w = w' → ∃ fb : Bool, e = .returned (.bool fb) ∧ (fb = true → (len : Int) ≤ n ∧ ∀ ch ∈ l, ch.key.size ≤ 100 ∧ ch.value.size ≤ 200) ∧ w = w' := fun k hk hj e w' h1 h2 => ⟨_, h1, fun h => by
    have h3 := of_decide_eq_true h
    refine ⟨h3, fun ch hch => ?_⟩
    obtain ⟨j, hj1⟩ := List.getElem?_of_mem hch
    have hjl : j < l.length := by
      rcases Nat.lt_or_ge j l.length with h | h
      · exact h
      · rw [List.getElem?_eq_none h] at hj1; cases hj1
    exact hj j (by omega) ch hj1, h2⟩
  replace done := Lib.hid done
  replace hn := Lib.hid hn
  go_enter Tryz.func32, Tryz.ntmps32
  go_wp2_with fail
  go_loopw [5] (fun i wr => wr = w ∧ ∃ k : Nat, k ≤ len ∧ i = .int .i64 k ∧ ∀ j, j < k → ∀ x, l[j]? = some x → x.key.size ≤ 100 ∧ x.value.size ≤ 200) (fun i _ => len + 1 - (intOf i).toNat)
  case atStart => exact ⟨rfl, 0, by omega, rfl, fun j hj => by omega⟩
  case round =>
    obtain ⟨rfl, k, hk, rfl, hj⟩ := hrel
    replace hj := Lib.hid hj
    by_cases hlt : k < len
    · have d1 : decide ((k : Int) < (len : Int)) = true := by simp; omega
      by_cases h80 : k < 80
      · have d2 : decide ((k : Int) < 80) = true := by simp; omega
        obtain ⟨ad, x, rfl, hb, hx, hc⟩ := chL_cells hr hlen hlt
        obtain ⟨c0, _, c2⟩ := hc _ (Below.refl _ _)
        have i1 : (0 : Int) ≤ (k : Int) := by omega
        have i2 : (k : Int) < (len : Int) := by omega
        clear hc
        replace hx := Lib.hid hx
        by_cases h1 : 100 < x.key.size
        · have d3 : decide ((100 : Int) < (x.key.size : Int)) = true := by simp; omega
          go_wp2_with fail
          go_ret
          exact ⟨false, rfl, (fun h => by cases h), rfl⟩
        have d3 : decide ((100 : Int) < (x.key.size : Int)) = false := by simp; omega
        by_cases h2 : 200 < x.value.size
        · have d4 : decide ((200 : Int) < (x.value.size : Int)) = true := by simp; omega
          go_wp2_with fail
          go_ret
          exact ⟨false, rfl, (fun h => by cases h), rfl⟩
        · have d4 : decide ((200 : Int) < (x.value.size : Int)) = false := by simp; omega
          go_wp2_with fail
          go_roundw
          case rel =>
            refine ⟨trivial, k + 1, by omega, by go_num, fun j hjk y hy => ?_⟩
            rcases Nat.lt_or_eq_of_le (Nat.lt_succ_iff.1 hjk) with h | h
            · exact hj.out j h y hy
            · rw [h, hx.out] at hy
              injection hy with hy
              rw [← hy]
              exact ⟨by omega, by omega⟩
          case measure => simp [intOf]; omega
      · have d2 : decide ((k : Int) < 80) = false := by simp; omega
        go_wp2_with fail
        go_ret
        exact done.out k (.inr ⟨by omega, by omega⟩) hj.out _ _ rfl rfl
    · have d1 : decide ((k : Int) < (len : Int)) = false := by simp; omega
      go_wp2_with fail
      go_ret
      exact done.out k (.inl (by omega)) hj.out _ _ rfl rfl
/-- The example's change. -/
def kChange : PChange := ⟨kText, true, vText⟩
theorem lay_ex0 {S S' : PHeap} {s' : PLay} {xs : List (PAct × PGot)} (hL : Laid S tinyC (fun _ => none) (fun _ => []) (fun _ => 0) 0) (hr : Runs layRout S (newLay tinyC 1 []) xs S' s') (hs : (9 : Int) ≤ (xs.length : Nat) ∨ layRout.can S' s' = false) : s'.part = 8 ∧ s'.laid = 0 ∧ Laid S' tinyC (fun _ => none) (fun _ => []) (fun _ => 0) 1 ∧ S'.last = S.last ∧ xs.length = 1 := by
  have ha : layRout.act (newLay tinyC 1 []) = (⟨2, 1, ((0 : Nat) : Int), 0, 1, ByteArray.empty⟩, true) := rfl
  obtain ⟨r, l, rfl, hr2, hs2⟩ := run_one ha (ready_store _ _ _) hr hs (by decide)
  rw [hL.epoch.store 1 r] at hr2
  obtain ⟨rfl, rfl, rfl⟩ := run_end (Rt := layRout) rfl hr2
  exact ⟨rfl, rfl, hL.at_epoch tiny_right 1, rfl, rfl⟩
def JX (l : List PChange) (half : Option Nat) (n : Int) (tx : Nat → Option ByteArray) (_ : Nat → List PVersion) : Prop := (l = [kChange] ∧ half = none ∧ n = 0 ∧ tx = fun _ => none) ∨ (l = [kChange] ∧ n = 1 ∧ half ≠ none) ∨ (l = [] ∧ n = 1)
theorem jx_law : LawJ tinyC 2 JX where
  one := fun {ch l n tx st p} b hj htx _ => by
    rcases hj with ⟨_, _, _, h⟩ | ⟨_, _, h⟩ | ⟨h, _⟩
    · rw [h] at htx; cases htx
    · exact absurd rfl h
    · cases h
  two := fun {ch l n tx st p} b hj htx _ => by
    rcases hj with ⟨h1, _, h2, h⟩ | ⟨_, _, h⟩ | ⟨h, _⟩
    · exact .inr (.inl ⟨h1, by omega, by simp⟩)
    · exact absurd rfl h
    · cases h
  name := fun {ch l n tx st p} hj htx _ => by
    rcases hj with ⟨_, h, _⟩ | ⟨h1, h2, h⟩ | ⟨h, _⟩
    · cases h
    · injection h1 with _ h1
      exact .inr (.inr ⟨h1, h2⟩)
    · cases h
  full := fun {ch l n tx st} hj hl => by
    rcases hj with ⟨_, _, _, h⟩ | ⟨_, _, h⟩ | ⟨h, _⟩
    · rw [h] at hl
      have := hl.1
      rw [fresh_look _ tiny_right] at this
      cases this
    · exact absurd rfl h
    · cases h
theorem lay_ex1 {S S' : PHeap} {s' : PLay} {xs : List (PAct × PGot)} (hL : Laid S tinyC (fun _ => none) (fun _ => []) (fun _ => 0) 1) (hla : S.last ≤ 10) (hr : Runs layRout S (newLay tinyC 2 [kChange]) xs S' s') (hs : (99 : Int) ≤ (xs.length : Nat) ∨ layRout.can S' s' = false) : s'.part = 8 ∧ s'.laid = 1 ∧ ∃ tx st, Laid S' tinyC tx st (fun _ => 0) 2 := by
  have hst : LSt tinyC 2 S (fun _ => none) (fun _ => []) (fun _ => 0) 1 (newLay tinyC 2 [kChange]) none (2 * (3 : Nat) + 10 + 140 * (0 : Nat)) := by
    have e : newLay tinyC 2 [kChange] = ⟨tinyC, 2, kChange :: [], 1, findAt tinyC kChange.key ((0 : Nat) : Int).toNat 0, 0, 0, ⟨[], 0, 0⟩, 0, 0⟩ := by
      show (⟨tinyC, 2, [kChange], 1, newFind tinyC kChange.key, 0, 0, ⟨[], 0, 0⟩, 0, 0⟩ : PLay) = _
      rw [newFind_at tinyC tiny_right]
      rfl
    rw [e]
    have hf := fresh_look tinyC tiny_right kChange.key
    have hf3 : lookP kChange.key (plN tinyC kChange.key) (fun _ => none) 3 0 = (2, ((plN tinyC kChange.key 0 : Nat) : Int), 1) := hf
    exact .f0 0 3 (by decide) (by decide) (by rw [hf3]; exact ⟨by rw [hf], by rw [hf]; rfl⟩) (by rw [hf3]; show (0 : Int) ≤ ((plN tinyC kChange.key 0 : Nat) : Int); omega) (fun ch hch => by
      rw [List.mem_singleton.1 hch]
      exact ⟨by decide, by decide⟩) (by simp only [List.length_nil]; omega)
  obtain ⟨tx, st, h1, h2, h3, _⟩ := lst_run tiny_right jx_law xs hL (.inl ⟨rfl, rfl, rfl, rfl⟩) (fun h => (by cases h)) hst hr hs (by decide)
  refine ⟨h3, ?_, tx, st, h1⟩
  rcases h2 with ⟨h, _⟩ | ⟨h, _⟩ | ⟨_, h⟩
  · cases h
  · cases h
  · exact h
theorem load_epoch {w1 W0 : World} {hb : Nat} {S : PHeap} {F : Nat → Prop} {K : List (Nat × Obj)} {c : PCfg} {tx : Nat → Option ByteArray} {st : Nat → List PVersion} {pn : Nat → Int} {e : Int} (o : OwnK w1 hb S F K W0) (hL : Laid S c tx st pn e) : ∀ W F', OwnK w1 hb S F' K W → Calls Tryz.prog 27 #[.pointer (some ⟨hb, 0, none⟩), .int .u64 1, .int .i64 0] W fun x w' => x = .returned (.tuple #[.int .u64 e, .int .i64 0]) ∧ ∃ F', OwnK w1 hb S F' K w' := fun W F' h => by
  have h1 := ctl_load h.own.heap hL.epoch
  exact h1.mono fun e w' ⟨he, ht⟩ => ⟨he, _, h.turned ht⟩
theorem reads_change (W : World) (a b : ByteArray) (h : Bool) : Reads (W.alloc (.cells #[.string a, .bool h, .string b] 57)) (W.alloc (.cells #[.string a, .bool h, .string b] 57)).heap.size 3 (some ⟨W.heap.size, 0, none⟩) 1 (chL [⟨a, h, b⟩]) :=
  reads_blk (Blk.new W 57 #[.string a, .bool h, .string b]) 3 rfl |>.more (by simp)
set_option maxRecDepth 100000 in
set_option maxHeartbeats 4000000 in
theorem awake30 (w : World) : Calls Tryz.prog 31 #[] w fun e w' => e = .returned (.bool true) ∧ Below w.heap.size w w' := by
  have hFd := fun W => field_any tinyC tiny_right W
  have hN0 := fun W => lnNew_at tinyC tiny_right 1 (by decide) (w := W) none 0 0 [] rfl (by decide) ⟨rfl, fun h => absurd h (by decide)⟩ (fun ch h => by cases h)
  have hN1 := fun W A (hr : Reads W W.heap.size 3 A 1 (chL [kChange])) => lnNew_at tinyC tiny_right 2 (by decide) (w := W) A 1 1 [kChange] rfl (by decide) hr (fun ch h => by rw [List.mem_singleton.1 h]; exact ⟨by decide, by decide⟩)
  have hAn := fun W => lnAct_nil W
  rw [tinyVR] at hFd hN0 hN1
  replace hFd := Lib.hid hFd
  replace hN0 := Lib.hid hN0
  replace hN1 := Lib.hid hN1
  replace hAn := Lib.hid hAn
  go_enter Tryz.func31, Tryz.ntmps31
  go_wp2_with fail
  refine (tiny_any _).mono ?_; rintro e w1 ⟨rfl, hb1⟩
  have B1 := Blk.new w1 24 #[.int .i64 2, .int .i64 2, .int .i64 3, .int .i64 2, .int .i64 1, .int .u64 0]
  have hz1 : Below w.heap.size w (w1.alloc (.cells #[.int .i64 2, .int .i64 2, .int .i64 3, .int .i64 2, .int .i64 1, .int .u64 0] 24)) := hb1.alloc hb1.size _
  clear hb1
  replace B1 := Lib.hid B1
  replace hz1 := Lib.hid hz1
  go_wp2_with fail
  refine (hFd.out _).mono ?_; rintro e w2 ⟨hb, r, rfl, s2⟩
  obtain ⟨F2, o2⟩ := Own.of_sess s2
  have hF2 := o2.heap.own
  have hz2 := o2.below.size
  simp only [World.size_alloc] at hz2
  have k2 : OwnK (w1.alloc (.cells #[.int .i64 2, .int .i64 2, .int .i64 3, .int .i64 2, .int .i64 1, .int .u64 0] 24)) hb (fieldS tinyC r) F2 [(w1.heap.size, Obj.cells #[.int .i64 2, .int .i64 2, .int .i64 3, .int .i64 2, .int .i64 1, .int .u64 0] 24)] w2 := ⟨o2, fun x hx => by
    rw [List.mem_singleton.1 hx]
    exact ⟨B1.out.below o2.below (by simp), fun h => by have := o2.new _ h; simp only [World.size_alloc] at this; omega⟩⟩
  have C2 := k2.blk (List.mem_singleton.2 rfl)
  have d0 := C2.cell 0
  have d1 := C2.cell 1
  have d2 := C2.cell 2
  have d3 := C2.cell 3
  have d4 := C2.cell 4
  have d5 := C2.cell 5
  clear s2 C2
  replace o2 := Lib.hid o2
  replace k2 := Lib.hid k2
  go_wp2_with fail
  refine (hN0.out _).mono ?_; rintro e w3 ⟨b, rfl, hR3, hb3⟩
  have k3 := k2.out.below hb3
  have hA3 := ralone layRout k3 hR3 hF2 (fun x hx => by rw [List.mem_singleton.1 hx]; show w1.heap.size < w2.heap.size; omega) (by simp only [World.size_alloc]; omega) (by show (0 : Int) ≤ _; decide) (by show (1 : Int) ≤ _; decide) 9 (by decide)
  clear hb3 d0 d1 d2 d3 d4 d5
  replace k3 := Lib.hid k3
  replace hR3 := Lib.hid hR3
  replace hA3 := Lib.hid hA3
  go_wp2_with fail
  refine (hA3.out).mono ?_; rintro e w4 ⟨xs, S4, s4, F4, D4, hRun, hstop, rfl, k4, hR4, hoff4⟩
  obtain ⟨h41, h42, h43, h44, h45⟩ := lay_ex0 (field_laid tinyC tiny_right r) hRun hstop
  have hRs := lnResult_any hR4.2.2
  have hact4 : (layRout.act s4).2 = false := by show (PLay.act s4).2 = false; simp [PLay.act, h41]
  rw [h41, h42] at hRs
  rw [h45, hact4]
  have hl4 : S4.last = 1 := by rw [h44]; rfl
  clear hRun hstop hA3 h41 h42 h44 h45 hact4 hoff4 hR4
  replace k4 := Lib.hid k4
  replace hRs := Lib.hid hRs
  replace h43 := Lib.hid h43
  replace hl4 := Lib.hid hl4
  go_wp2_with fail
  refine (hRs.out).mono ?_; rintro e w5 ⟨rfl, hb5⟩
  have k5 := k4.out.below hb5
  have C5 := k5.blk (List.mem_singleton.2 rfl)
  have d0 := C5.cell 0
  have d1 := C5.cell 1
  have d2 := C5.cell 2
  have d3 := C5.cell 3
  have d4 := C5.cell 4
  have d5 := C5.cell 5
  clear hb5 hRs C5
  replace k5 := Lib.hid k5
  have hNx := hN1.out _ _ (reads_change w5 ⟨#[107]⟩ ⟨#[118]⟩ true)
  replace hNx := Lib.hid hNx
  go_wp2_with fail
  refine (hNx.out).mono ?_; rintro e w6 ⟨b6, rfl, hR6, hb6⟩
  have k6 := k5.out.below ((Below.more_ (Below.refl _ _) (.cells #[.string ⟨#[107]⟩, .bool true, .string ⟨#[118]⟩] 57)).trans (hb6.mono (by simp)))
  have hF5 := k5.out.own.heap.own
  have hz5 := k5.out.own.below.size
  simp only [World.size_alloc] at hz5
  have hk5 := fun x hx => k5.out.lt (x := x) hx
  have hA6 := ralone layRout k6 hR6 (fun k hk => by have := hF5 k hk; simp only [World.size_alloc]; omega) (fun x hx => by have := hk5 x hx; simp only [World.size_alloc]; omega) (by simp only [World.size_alloc]; omega) (by rw [h43.out.faults]; decide) (by rw [hl4.out]; decide) 99 (by decide)
  clear hb6 d0 d1 d2 d3 d4 d5 hF5 hz5 hk5
  replace k6 := Lib.hid k6
  replace hR6 := Lib.hid hR6
  replace hA6 := Lib.hid hA6
  go_wp2_with fail
  refine (hA6.out).mono ?_; rintro e w7 ⟨xs7, S7, s7, F7, D7, hRun, hstop, rfl, k7, hR7, hoff7⟩
  obtain ⟨h71, h72, tx7, st7, h73⟩ := lay_ex1 h43.out (by rw [hl4.out]; decide) hRun hstop
  have hRs := lnResult_any hR7.2.2
  rw [h71, h72] at hRs
  have hLd := load_epoch k7 h73
  clear hRun hstop hA6 h71 h72 h73 hoff7 hR7
  replace k7 := Lib.hid k7
  replace hRs := Lib.hid hRs
  replace hLd := Lib.hid hLd
  go_wp2_with fail
  refine (hRs.out).mono ?_; rintro e w8 ⟨rfl, hb8⟩
  have k8 := k7.out.below hb8
  clear hb8 hRs
  replace k8 := Lib.hid k8
  go_wp2_with fail
  refine (hLd.out _ _ k8.out).mono ?_; rintro e w9 ⟨rfl, F9, k9⟩
  replace k9 := Lib.hid k9
  go_wp2_with fail
  refine (hAn.out _).mono ?_; rintro e w10 ⟨rfl, hb10⟩
  have k10 := (k9.out.below hb10).add (.cells #[.int .i64 0, .int .u64 0, .int .i64 0, .int .u64 0, .int .u64 0, .string ⟨#[]⟩] 31)
  clear hb10
  replace k10 := Lib.hid k10
  go_wp2_with fail
  go_ret
  exact ⟨rfl, hz1.out.trans (k10.out.own.below.mono hz1.out.size)⟩
end Go.Proofs.YtmlnhjfdhjachaaGreat

/-
  philtreref07.Right of rising pairs. No condition.
-/
namespace Go.Proofs.YtmlnhjfdhjachaaGreat
set_option linter.unusedVariables false
open Go.ChangeShapes Go.WideShapes Go.ChangeAt Go.RowKit
open Go.ChangeMaps (setBlock)

set_option maxRecDepth 100000 in
set_option maxHeartbeats 4000000 in
theorem right07_any {w : World} {A : Option Addr} {n cap : Nat} {m : List (ByteArray × ByteArray)} (hlen : m.length = n) (hn : n ≤ 1000) (hr : Reads w w.heap.size 2 A n (pairL m)) (hm : Rises m) :
    Calls Tryz.prog 73 #[.slice A n cap] w fun e w' => e = .returned (.bool true) ∧ Below w.heap.size w w' := by
  have hlt2 : ∀ (i j : Nat) p q, j < i → m[j]? = some p → m[i]? = some q → ltB p.1 q.1 = true := fun i j p q hji hp hq => by
    obtain ⟨hj, rfl⟩ := List.getElem?_eq_some_iff.1 hp
    obtain ⟨hi, rfl⟩ := List.getElem?_eq_some_iff.1 hq
    exact List.pairwise_iff_getElem.1 hm j i hj hi hji
  replace hr := Lib.hid hr
  replace hlen := Lib.hid hlen
  replace hlt2 := Lib.hid hlt2
  clear hm
  go_enter Tryz.func73, Tryz.ntmps73
  go_wp2_with fail
  go_loopw [3] (fun iv wr => Below w.heap.size w wr ∧ ∃ k : Nat, k ≤ n ∧ iv = .int .i64 k) (fun i _ => n + 1 - (intOf i).toNat)
  case atStart => exact ⟨Below.refl _ _, 0, by omega, rfl⟩
  case round =>
    obtain ⟨hb, k, hk, rfl⟩ := hrel
    by_cases hlt : k < n
    · have d1 : decide ((k : Int) < (n : Int)) = true := by simp; omega
      have i1 : (0 : Int) ≤ (k : Int) := by omega
      have i2 : (k : Int) < (n : Int) := by omega
      have hl63 : (k : Int) + 1 ≤ 9223372036854775807 := by omega
      go_wp2_with fail
      go_loopw [4] (fun jv wr2 => Below w.heap.size w wr2 ∧ ∃ j : Nat, j ≤ k ∧ jv = .int .i64 j) (fun j _ => k + 1 - (intOf j).toNat)
      case atStart => exact ⟨hb, 0, by omega, rfl⟩
      case round =>
        clear hb
        rename_i wr2 hst
        obtain ⟨hb, j, hj, rfl⟩ := hrel
        by_cases hjt : j < k
        · have d2 : decide ((j : Int) < (k : Int)) = true := by simp; omega
          have j1 : (0 : Int) ≤ (j : Int) := by omega
          have j2 : (j : Int) < (n : Int) := by omega
          have jl63 : (j : Int) + 1 ≤ 9223372036854775807 := by omega
          obtain ⟨ad, p, rfl, hp, p0, _⟩ := pair_at hr.out hb (show j < n by omega) hlen.out
          obtain ⟨ad', q, e, hq, q0, _⟩ := pair_at hr.out hb hlt hlen.out
          injection e with e
          subst e
          have hl := hlt2.out k j p q hjt hp hq
          have hge : Op.bytesLess p.1.toList q.1.toList = true := hl
          clear hl hp hq
          replace hb := Lib.hid hb
          go_upto_region 7 with fail
          go_quiet (fail)
          go_wp2_with fail
          go_roundw
          case rel => exact ⟨by first | exact hb.out | exact hb.out.drew | exact below_drewN hb.out _, j + 1, by omega, by go_num⟩
          case measure => simp [intOf]; omega
        · have d2 : decide ((j : Int) < (k : Int)) = false := by simp; omega
          go_wp2_with fail
          go_roundw
          case rel => exact ⟨by first | exact hb | exact hb.drew | exact below_drewN hb _, k + 1, by omega, by go_num⟩
          case measure => simp [intOf]; omega
    · have d1 : decide ((k : Int) < (n : Int)) = false := by simp; omega
      go_wp2_with fail
      go_ret
      exact ⟨rfl, hb⟩
theorem patchP_len : ∀ (l : List PChange) (m : List (ByteArray × ByteArray)), (patchP m l).length ≤ m.length + l.length
  | [], m => by simp [patchP]
  | ch :: l, m => by
    have h1 := patchP_len l (nextP m ch true)
    have h2 := nextP_len m ch true
    show (patchP (nextP m ch true) l).length ≤ _
    simp only [List.length_cons]
    omega
theorem patchP_rises : ∀ (l : List PChange) {m : List (ByteArray × ByteArray)}, Rises m → Rises (patchP m l)
  | [], _, h => h
  | ch :: l, _, h => patchP_rises l (nextP_rises h ch true)
theorem patch_take {ls : List PChange} {k : Nat} {ch : PChange} (h : ls[k]? = some ch) (m : List (ByteArray × ByteArray)) : patchP m (ls.take (k + 1)) = nextP (patchP m (ls.take k)) ch true := by
  rw [List.take_add_one, h, ← patchP_snoc]
  rfl
/-- Between two rounds of Patch. -/
def PatR (w : World) (len : Nat) (ls : List PChange) (m : List (ByteArray × ByteArray)) (g0 : Nat) (mv iv : Value) (wr : World) : Prop := ∃ (k g : Nat) (o : Obj), k ≤ len ∧ iv = .int .i64 k ∧ PRow mv g o (patchP m (ls.take k)) ∧ wr.heap[g]? = some o ∧ (g = g0 ∨ w.heap.size ≤ g) ∧ Below w.heap.size w wr
set_option maxRecDepth 100000 in
set_option maxHeartbeats 4000000 in
theorem patch07_any {w : World} {A2 : Option Addr} {len cap2 g0 : Nat} {o0 : Obj} {mv : Value} {m : List (ByteArray × ByteArray)} {ls : List PChange} (hm : PRow mv g0 o0 m) (hg0 : w.heap[g0]? = some o0) (hml : m.length ≤ 500) (hri : Rises m) (hlen : ls.length = len) (hl100 : len ≤ 100) (hr : Reads w w.heap.size 3 A2 len (chL ls)) :
    Calls Tryz.prog 35 #[mv, .slice A2 len cap2] w fun e w' => ∃ v g o, e = .returned v ∧ PRow v g o (patchP m ls) ∧ w'.heap[g]? = some o ∧ (g = g0 ∨ w.heap.size ≤ g) ∧ Below w.heap.size w w' := by
  obtain ⟨cp, rfl⟩ := hm.slice
  have hRt := right07_any (cap := cp) rfl (by omega) (hm.reads hg0).2 hri
  have hpl := fun k => patchP_len (ls.take k) m
  have htl : ∀ k, (ls.take k).length ≤ len := fun k => by rw [List.length_take]; omega
  have hpl2 : ∀ k, (patchP m (ls.take k)).length ≤ 1000 := fun k => by have := hpl k; have := htl k; omega
  have hfin : patchP m (ls.take len) = patchP m ls := by rw [← hlen, List.take_length]
  clear hpl htl
  replace hRt := Lib.hid hRt
  replace hm := Lib.hid hm
  replace hg0 := Lib.hid hg0
  replace hr := Lib.hid hr
  replace hlen := Lib.hid hlen
  replace hpl2 := Lib.hid hpl2
  replace hfin := Lib.hid hfin
  clear hri
  go_enter Tryz.func35, Tryz.ntmps35
  go_wp2_with fail
  refine (hRt.out).mono ?_; rintro e w1 ⟨rfl, hb1⟩
  have hg1 : w1.heap[g0]? = some o0 := by
    have hlt : g0 < w.heap.size := by
      rcases Nat.lt_or_ge g0 w.heap.size with h | h
      · exact h
      · have h2 := hg0.out
        rw [Array.getElem?_eq_none h] at h2
        cases h2
    exact (hb1.block _ hlt).trans hg0.out
  replace hg1 := Lib.hid hg1
  replace hb1 := Lib.hid hb1
  go_wp2_with fail
  go_loopw [0, 5] (fun mv iv wr => PatR w len ls m g0 mv iv wr) (fun _ i _ => len + 1 - (intOf i).toNat)
  case atStart => exact ⟨0, g0, o0, Nat.zero_le _, rfl, hm.out, hg1.out, .inl rfl, hb1.out⟩
  case round =>
    obtain ⟨k, g, o, hk, rfl, hM, hgo, hgs, hb⟩ := hrel
    obtain ⟨cp', rfl⟩ := hM.slice
    have hPl := hpl2.out k
    have hrd := (hM.reads hgo).2
    by_cases hlt : k < len
    · have d1 : decide ((k : Int) < (len : Int)) = true := by simp; omega
      have i1 : (0 : Int) ≤ (k : Int) := by omega
      have i2 : (k : Int) < (len : Int) := by omega
      have hl63 : (k : Int) + 1 ≤ 9223372036854775807 := by omega
      obtain ⟨ad, ch, rfl, hadb, hch, hc⟩ := chL_cells hr.out hlen.out hlt
      have hnx := patch_take hch m
      have hsz := hb.size
      have hPt : ∀ W, Below wr.heap.size wr W → Calls Tryz.prog 23 _ W _ := fun W hW => put_any (cap := cp') ch.key ch.value rfl hPl (by
        have := hrd.below hW
        exact this.more hW.size)
      have hDl : ∀ W, Below wr.heap.size wr W → Calls Tryz.prog 24 _ W _ := fun W hW => del_any (cap := cp') ch.key rfl hPl (by
        have := hrd.below hW
        exact this.more hW.size)
      obtain ⟨c0, c1, c2⟩ := hc _ hb
      obtain ⟨ky, hs, vl⟩ := ch
      simp only at c0 c1 c2 hPt hDl hnx
      replace hPt := Lib.hid hPt
      replace hDl := Lib.hid hDl
      replace hb := Lib.hid hb
      replace hM := Lib.hid hM
      replace hgo := Lib.hid hgo
      replace hrd := Lib.hid hrd
      replace hnx := Lib.hid hnx
      replace hc := Lib.hid hc
      clear hch
      cases hs with
      | true =>
        go_upto_region 7 with fail
        go_region_held3 (fun W => W.cell? (ad.add (k * 3)) = some (.string ky) ∧ W.cell? ⟨(ad.add (k * 3)).block, (ad.add (k * 3)).off + 2, none⟩ = some (.string vl)) (first | assumption | go_keep)
          (first | (go_at_call 23; refine (hPt.out _ (by first | exact Below.refl _ _ | exact (Below.refl _ _).drew | exact below_drewN (Below.refl _ _) _)).mono ?_; rintro e w6 ⟨v6, g6, o6, rfl, hp6, hg6, hge6, hb6⟩; have hb7 : Below w.heap.size w w6 := Below.next_ (by first | exact hb.out | exact hb.out.drew | exact below_drewN hb.out _) hb6; have s6 : w6.cell? (ad.add (k * 3)) = some (.string ky) ∧ w6.cell? ⟨(ad.add (k * 3)).block, (ad.add (k * 3)).off + 2, none⟩ = some (.string vl) := ⟨(hc.out _ hb7).1, (hc.out _ hb7).2.2⟩; have hgw6 : wr.heap.size ≤ g6 := hge6; replace hb7 := Lib.hid hb7; replace hp6 := Lib.hid hp6; replace hg6 := Lib.hid hg6; clear hge6 hb6))
        all_goals
          obtain ⟨cp6, rfl⟩ := hp6.out.slice
          go_wp2_with fail
          go_roundw
          case rel => exact ⟨k + 1, g6, o6, by omega, by go_num, by rw [hnx.out]; exact hp6.out, hg6.out, .inr (by omega), by first | exact hb7.out | exact hb7.out.drew | exact below_drewN hb7.out _⟩
          case measure => simp [intOf]; omega
      | false =>
        go_wp2_with fail
        refine (hDl.out _ (by first | exact Below.refl _ _ | exact (Below.refl _ _).drew | exact below_drewN (Below.refl _ _) _)).mono ?_; rintro e w6 ⟨v6, g6, o6, rfl, hp6, hg6, hge6, hb6⟩
        have hb7 : Below w.heap.size w w6 := Below.next_ (by first | exact hb.out | exact hb.out.drew | exact below_drewN hb.out _) hb6
        have hgw6 : wr.heap.size ≤ g6 := hge6
        obtain ⟨cp6, rfl⟩ := hp6.slice
        replace hb7 := Lib.hid hb7
        replace hp6 := Lib.hid hp6
        replace hg6 := Lib.hid hg6
        clear hge6 hb6
        go_wp2_with fail
        go_roundw
        case rel => exact ⟨k + 1, g6, o6, by omega, by go_num, by rw [hnx.out]; exact hp6.out, hg6.out, .inr (by omega), by first | exact hb7.out | exact hb7.out.drew | exact below_drewN hb7.out _⟩
        case measure => simp [intOf]; omega
    · have d1 : decide ((k : Int) < (len : Int)) = false := by simp; omega
      obtain rfl : k = len := by omega
      rw [hfin.out] at hM
      rw [hfin.out]
      replace hM := Lib.hid hM
      replace hgo := Lib.hid hgo
      go_wp2_with fail
      go_ret
      exact ⟨_, g, o, rfl, hM.out, hgo.out, hgs, hb⟩
end Go.Proofs.YtmlnhjfdhjachaaGreat

/-
  The frame that every law's proof shares: a contract that says 'it returns true, and nothing that was there has turned' gives the row's step. And how the arguments are opened. No condition.
-/
namespace Go.Proofs.YtmlnhjfdhjachaaGreat
set_option linter.unusedVariables false
open Go.ChangeShapes Go.WideShapes Go.ChangeAt Go.RowKit

section
variable {H : Type} {enc : TypeId × Value → H} {P : Program}
theorem stays_all (hl : laidOutB P = true) {W W' : World} (hb : Below W.heap.size W W') {sp : Nat → Bool} :
    ∀ {ts : List TypeId} {vs : List Value} {ds : List (DataW H)} {ps : List MemPlace}, (∀ t ∈ ts, P.readableRec t = true ∧ t < P.types.size) →
      DataW.TrodAll enc P W 0 (fun _ => true) true ts vs ds ps → (∀ p ∈ ps, p.block < W.heap.size ∧ sp p.block = true) → DataW.TrodAll enc P W' 0 sp true ts vs ds ps
  | [], [], [], ps, _, h, _ => h
  | t :: ts, v :: vs, d :: ds, ps, ht, h, hp => by
    obtain ⟨p, q, h1, h2, rfl⟩ := h
    refine ⟨p, q, ?_, ?_, rfl⟩
    · exact WideElems.Trod_stays hl (ht t (by simp)).1 (ht t (by simp)).2 h1 (fun x hx => hb.same (hp x (by simp [hx])).1) (fun x hx => (hp x (by simp [hx])).2)
    · exact stays_all hl hb (fun t' h' => ht t' (by simp [h'])) h2 (fun x hx => hp x (by simp [hx]))
  | [], _ :: _, _, _, _, h, _ => h.elim
  | [], [], _ :: _, _, _, h, _ => h.elim
  | _ :: _, [], _, _, _, h, _ => h.elim
  | _ :: _, _ :: _, [], _, _, h, _ => h.elim

theorem trod_len {w : World} {base : Nat} {sp : Nat → Bool} {held : Bool} : ∀ {ts : List TypeId} {vs : List Value} {ds : List (DataW H)} {ps : List MemPlace}, DataW.TrodAll enc P w base sp held ts vs ds ps → ds.length = ts.length
  | [], [], [], _, _ => rfl
  | _ :: _, _ :: _, _ :: _, _, h => by
    obtain ⟨_, _, _, h2, _⟩ := h
    simp [trod_len h2]
  | [], _ :: _, _, _, h => h.elim
  | [], [], _ :: _, _, h => h.elim
  | _ :: _, [], _, _, h => h.elim
  | _ :: _, _ :: _, [], _, h => h.elim

theorem row_mem (a : Addr) (n : Nat) (h : 0 < n) : MemPlace.cell a.block a.off ∈ MemPlace.row a n := by
  unfold MemPlace.row
  simp
  exact h
theorem list_of_each {α : Type} {R : Nat → α → Prop} : ∀ len : Nat, (∀ i, i < len → ∃ x, R i x) → ∃ xs : List α, xs.length = len ∧ ∀ i x, xs[i]? = some x → R i x
  | 0, _ => ⟨[], rfl, by simp⟩
  | len + 1, each => by
    obtain ⟨xs, hl1, h1⟩ := list_of_each len fun i hil => each i (by omega)
    obtain ⟨x, hx1⟩ := each len (by omega)
    refine ⟨xs ++ [x], by simp [hl1], fun i y hy => ?_⟩
    rcases Nat.lt_or_ge i xs.length with h2 | h2
    · exact h1 i y (by rwa [List.getElem?_append_left h2] at hy)
    · rw [List.getElem?_append_right h2] at hy
      have h3 : i - xs.length = 0 := by
        have := (List.getElem?_eq_some_iff.1 hy).1
        simp at this
        omega
      rw [h3] at hy
      simp at hy
      subst hy
      have : i = len := by omega
      subst this
      exact hx1
theorem rows_of {P : Program} {l : List TypeId} (h : (l.all fun t => P.readableRec t && decide (t < P.types.size)) = true) : ∀ t ∈ l, P.readableRec t = true ∧ t < P.types.size := by
  intro t ht
  have := List.all_eq_true.1 h t ht
  rw [Bool.and_eq_true, decide_eq_true_eq] at this
  exact this

theorem law_lift {C : Checked} {f : FuncId} {fn : Func} {s : ChangeSpec} {os : Os} {B : TypeId} (own : ownKnob C.prog.godebug = none) (started : os.Started) (noInit : C.prog.inits.idxOf? f = none) (hfn : C.prog.funcs[f]? = some fn)
    (hl : laidOutB C.prog = true) (hts : ∀ t ∈ fn.params.toList, C.prog.readableRec t = true ∧ t < C.prog.types.size) (hB : C.prog.underlying B = some .bool) (hrt : fn.resultTypes = #[B]) (hv : s.vars = [])
    (hs : ∀ ds : List (DataW H), ds.length = fn.params.toList.length → (s.fn H ds).results = [.lit (.bool true)] ∧ (s.fn H ds).args = ds ∧ (s.fn H ds).vars = [])
    (witness : ∃ (w : World) (tape : Tape) (i : Input), w.os = os ∧ (w.forCall tape i).Shaped C.prog ∧ i.vars = [] ∧ Input.okWide C.prog (w.forCall tape i) .any w.heap.size f i ∧
      s.pre6 enc C.prog fn [] false (w.forCall tape i).memory i.args ∧ ({} : Assume).holds C.prog (lone (Frame.enter C.prog f i.args .normal) [] (w.forCall tape i)))
    (contract : ∀ (W : World) (base : Nat) (args : Array Value) (ds : List (DataW H)) (p : List MemPlace),
      (∀ (j : Nat) t v, fn.params[j]? = some t → args[j]? = some v → Value.okWide C.prog W .any base t v) →
      DataW.TrodAll enc C.prog W 0 (fun _ => true) true fn.params.toList args.toList ds p → (∀ x ∈ p, x.block < W.heap.size) →
      (DataW.weightsEach C.prog fn.params.toList ds).all (· ≤ reachBytes) = true →
      Calls C.prog f args W fun e W' => e = .returned (.bool true) ∧ Below W.heap.size W W') :
    ReturnsInHanded {} C os f .any (s.pre6 enc C.prog fn [] false) (s.post enc C.prog fn false true false false) := by
  refine returnsInHanded_of_change_sized own started noInit hfn witness ?_
  intro W base args ds gs before hval hW _ hwt _
  have hW' := hW
  have hlt : ∀ x ∈ before, x.block < W.heap.size := fun x hx => hW.lt x hx
  obtain ⟨p, q, hA, hV, rfl, hfz, hnd⟩ := hW
  rw [hv] at hV
  obtain ⟨rfl, rfl⟩ := trodVars_none hV
  have hl2 : ds.length = fn.params.toList.length := trod_len hA
  have hvt : s.plain.varTypes C.prog = [] := by unfold ChangeSpec.plain; rw [hv]; rfl
  rw [hvt] at hwt
  simp only [List.append_nil] at hwt hW' hlt
  obtain ⟨e1, e2, e3⟩ := hs ds hl2
  refine (contract W base args ds p hval hA hlt hwt).mono fun e W' ⟨he, hb⟩ => ?_
  subst he
  refine ⟨_, rfl, post_of_below (pa := p) (pv := []) hW' ?_ ?_ ?_ (by simp) hb ?_⟩
  · intro _ _ _
    simp only [List.append_nil, e1, hrt]
    exact trodAll_cons_mk (shut_bool hB _) trodAll_mk0
  · intro sp hsp
    simp only [List.append_nil, e2]
    exact stays_all hl hb hts hA (fun x hx => ⟨hlt x hx, hsp x hx⟩)
  · intro sp _
    simp only [List.append_nil, e3, hv]
    rfl
  · exact ok_one hrt rfl (okWide_bool_mk hB _)
end
end Go.Proofs.YtmlnhjfdhjachaaGreat

/-
  How records among the arguments are opened: answers, changes. No condition.
-/
namespace Go.Proofs.YtmlnhjfdhjachaaGreat
set_option linter.unusedVariables false
open Go.ChangeShapes Go.WideShapes Go.ChangeAt Go.RowKit
section
variable {H : Type} {enc : TypeId × Value → H}
theorem rec_fields {P : Program} {w : World} {base : Nat} {sp : Nat → Bool} {held : Bool} {fuel : Nat} {t : TypeId} {fs : Array Field} {cs : List Value} {x : DataW H × List MemPlace} (ht : P.underlying t = some (.struct fs)) (h : DataW.trod enc P w base sp held fuel t cs = some x) :
    cs.length = P.cellsOf t ∧ ∀ (i : Nat) (f : Field), fs[i]? = some f → ∃ n y, DataW.trod enc P w base sp held n f.type ((cs.drop f.offset).take (P.cellsOf f.type)) = some y := by
  obtain ⟨xs, n, _, _, hl, hlen, hf⟩ := DataW.trod_struct ht h
  refine ⟨hl, fun i f hi => ?_⟩
  have h1 := hf i f hi
  have h2 : i < fs.size := (Array.getElem?_eq_some_iff.mp hi).1
  exact ⟨n, xs[i]'(by omega), h1.trans (List.getElem?_eq_getElem (by omega))⟩
end
end Go.Proofs.YtmlnhjfdhjachaaGreat

/-
  How a config among the arguments is opened. No condition.
-/
namespace Go.Proofs.YtmlnhjfdhjachaaGreat
set_option linter.unusedVariables false
open Go.ChangeShapes Go.WideShapes Go.ChangeAt Go.RowKit
section
variable {H : Type} {enc : TypeId × Value → H}
set_option maxRecDepth 100000 in
theorem open_config {w : World} {v : Value} {d : DataW H} {ps : List MemPlace} {b0 : Nat} (hv : Value.okWide Tryz.prog w .any b0 24 v) (h : DataW.Trod enc Tryz.prog w 0 (fun _ => true) true 24 v d ps) :
    ∃ c : PCfg, v = c.val ∧ (-9223372036854775808 ≤ c.cap ∧ c.cap ≤ 9223372036854775807) ∧ (0 ≤ c.seed ∧ c.seed ≤ 18446744073709551615) := by
  simp only [Value.okWide, Tryz.underlying24] at hv
  obtain ⟨cs, rfl, hsz, _⟩ := hv
  obtain ⟨l⟩ := cs
  match l, hsz with
  | [c0, c1, c2, c3, c4, c5], _ =>
    obtain ⟨fuel, hf0⟩ := h
    obtain ⟨_, hf⟩ := rec_fields Tryz.underlying24 hf0
    obtain ⟨n0, y0, h0⟩ := hf 0 _ rfl
    obtain ⟨n1, y1, h1⟩ := hf 1 _ rfl
    obtain ⟨n2, y2, h2⟩ := hf 2 _ rfl
    obtain ⟨n3, y3, h3⟩ := hf 3 _ rfl
    obtain ⟨n4, y4, h4⟩ := hf 4 _ rfl
    obtain ⟨n5, y5, h5⟩ := hf 5 _ rfl
    obtain ⟨a0, e0, _, w0⟩ := DataW.trod_int Tryz.underlying3 h0
    obtain ⟨a1, e1, _, w1⟩ := DataW.trod_int Tryz.underlying3 h1
    obtain ⟨a2, e2, _, w2⟩ := DataW.trod_int Tryz.underlying3 h2
    obtain ⟨a3, e3, _, w3⟩ := DataW.trod_int Tryz.underlying3 h3
    obtain ⟨a4, e4, _, w4⟩ := DataW.trod_int Tryz.underlying3 h4
    obtain ⟨a5, e5, _, w5⟩ := DataW.trod_int Tryz.underlying22 h5
    have e0' : c0 = .int .i64 a0 := by
      have : [c0] = [Value.int .i64 a0] := e0
      injection this
    have e1' : c1 = .int .i64 a1 := by
      have : [c1] = [Value.int .i64 a1] := e1
      injection this
    have e2' : c2 = .int .i64 a2 := by
      have : [c2] = [Value.int .i64 a2] := e2
      injection this
    have e3' : c3 = .int .i64 a3 := by
      have : [c3] = [Value.int .i64 a3] := e3
      injection this
    have e4' : c4 = .int .i64 a4 := by
      have : [c4] = [Value.int .i64 a4] := e4
      injection this
    have e5' : c5 = .int .u64 a5 := by
      have : [c5] = [Value.int .u64 a5] := e5
      injection this
    subst e0' e1' e2' e3' e4' e5'
    exact ⟨⟨a0, a1, a2, a3, a4, a5⟩, rfl, bounds_i64 w0, bounds_u64 w5⟩
end
end Go.Proofs.YtmlnhjfdhjachaaGreat

/-
  How rows of changes among the arguments are opened. No condition.
-/
namespace Go.Proofs.YtmlnhjfdhjachaaGreat
set_option linter.unusedVariables false
open Go.ChangeShapes Go.WideShapes Go.ChangeAt Go.RowKit
section
variable {H : Type} {enc : TypeId × Value → H}
set_option maxRecDepth 100000 in
theorem open_chg {w : World} {base : Nat} {sp : Nat → Bool} {held : Bool} (n : Nat) (cs : List Value) (y : DataW H × List MemPlace) (hl : cs.length = 3) (h : DataW.trod enc Tryz.prog w base sp held n 57 cs = some y) :
    ∃ c : PChange, cs = [.string c.key, .bool c.has, .string c.value] ∧ (c.key.size ≤ maxLen ∧ c.value.size ≤ maxLen) := by
  obtain ⟨_, hf⟩ := rec_fields Tryz.underlying57 h
  match cs, hl with
  | [c0, c1, c2], _ =>
    obtain ⟨n0, y0, h0⟩ := hf 0 _ rfl
    obtain ⟨n1, y1, h1⟩ := hf 1 _ rfl
    obtain ⟨n2, y2, h2⟩ := hf 2 _ rfl
    obtain ⟨a, e0, _, w0⟩ := DataW.trod_string Tryz.underlying9 h0
    obtain ⟨b, e1, _⟩ := DataW.trod_bool Tryz.underlying4 h1
    obtain ⟨c, e2, _, w2⟩ := DataW.trod_string Tryz.underlying9 h2
    have e0' : c0 = .string a := by
      have : [c0] = [Value.string a] := e0
      injection this
    have e1' : c1 = .bool b := by
      have : [c1] = [Value.bool b] := e1
      injection this
    have e2' : c2 = .string c := by
      have : [c2] = [Value.string c] := e2
      injection this
    subst e0' e1' e2'
    exact ⟨⟨a, b, c⟩, rfl, w0, w2⟩
end
end Go.Proofs.YtmlnhjfdhjachaaGreat

/-
  How rows of rows of changes among the arguments are opened. No condition.
-/
namespace Go.Proofs.YtmlnhjfdhjachaaGreat
set_option linter.unusedVariables false
open Go.ChangeShapes Go.WideShapes Go.ChangeAt Go.RowKit
/-- Rows of rows of changes among the arguments. -/
def ChRws (w : World) (B : Nat) (A : Option Addr) (rows : List (List PChange)) : Prop :=
  0 < rows.length → ∃ ad, A = some ad ∧ ad.block < B ∧ ∀ i r, rows[i]? = some r → ∃ A' c, w.cell? (ad.add i) = some (.slice A' r.length c) ∧ r.length ≤ c ∧ c ≤ maxLen ∧ Reads w B 3 A' r.length (chL r)
theorem ChRws.nil {w : World} {B : Nat} {A : Option Addr} : ChRws w B A [] := fun h => absurd h (by simp)
theorem ChRws.below {w w' : World} {B : Nat} {A : Option Addr} {rows : List (List PChange)} (h : ChRws w B A rows) (hb : Below B w w') : ChRws w' B A rows := fun h0 => by
  obtain ⟨ad, e, hB, hr⟩ := h h0
  refine ⟨ad, e, hB, fun i r hi => ?_⟩
  obtain ⟨A', c, h1, h2, h3, h4⟩ := hr i r hi
  exact ⟨A', c, keepc hb hB h1, h2, h3, h4.below hb⟩
section
variable {H : Type} {enc : TypeId × Value → H}
/-- A slice that lies in a cell, or among the arguments: as a list of its own; the elements' places are the world's. -/
theorem open_listTS {α : Type} {P : Program} {w : World} {t e : TypeId} {k : Nat} (mk : α → List Value) (good : α → Prop) {cs : List Value} {D0 : DataW H} {ps : List MemPlace} {fuel : Nat} (ht : P.underlying t = some (.slice e)) (hc : P.cellsOf e = k) (hk : 0 < k) (hmk : ∀ x, (mk x).length = k)
    (hel : ∀ (n : Nat) (cs : List Value) (y : DataW H × List MemPlace), cs.length = k → DataW.trod enc P w 0 (fun _ => true) true n e cs = some y → (∀ x ∈ y.2, x.block < w.heap.size) → ∃ x, cs = mk x ∧ good x)
    (hf : DataW.trod enc P w 0 (fun _ => true) true fuel t cs = some (D0, ps)) (hlt : ∀ x ∈ ps, x.block < w.heap.size) :
    ∃ (A : Option Addr) (len cap : Nat) (xs : List α), cs = [.slice A len cap] ∧ len ≤ cap ∧ cap ≤ maxLen ∧ xs.length = len ∧ Reads w w.heap.size k A len (xs.flatMap mk) ∧ ∀ x ∈ xs, good x := by
  rcases Deep.open_slice ht hf with ⟨hcs, hx⟩ | ⟨a, len, cap, m, n, D, Pl, hcs, _, hl, hm, hmm, hx, hi⟩
  · exact ⟨none, 0, 0, [], hcs, Nat.le_refl _, by unfold maxLen; omega, rfl, Reads.none_, by simp⟩
  · simp only [if_true] at hmm
    subst hmm
    rw [hc] at hx hi
    simp only [Prod.mk.injEq] at hx
    have hpl : ∀ i, i < m → ∀ x ∈ Pl i, x.block < w.heap.size := fun i hi2 x hx2 => hlt x (by
      rw [hx.2]
      exact List.mem_append_right _ (List.mem_flatMap.2 ⟨i, List.mem_range.2 hi2, hx2⟩))
    have each : ∀ i, i < len → ∃ x, good x ∧ ∀ j u, (mk x)[j]? = some u → w.cell? (a.add (i * k + j)) = some u := by
      intro i hil
      obtain ⟨cs', h1, h2⟩ := hi i (by omega)
      obtain ⟨_, hcl, hat⟩ := World.cells?_some h1
      obtain ⟨x, rfl, hg⟩ := hel n cs' _ hcl h2 (hpl i (by omega))
      refine ⟨x, hg, fun j u hu => ?_⟩
      have hj : j < k := by have := (List.getElem?_eq_some_iff.1 hu).1; have := hmk x; omega
      rw [← add_of_add, hat j hj]
      exact hu
    obtain ⟨xs, hxl, hxs⟩ := list_of_each len each
    refine ⟨some a, len, _, xs, hcs, hl, hm, hxl, ⟨?_, fun hn => ⟨a, rfl, ?_, fun j u hu => ?_⟩⟩, fun x hx1 => ?_⟩
    · have : ∀ l : List α, (l.flatMap mk).length = l.length * k := by
        intro l
        induction l with
        | nil => simp
        | cons x l ih => rw [List.flatMap_cons, List.length_append, ih, hmk, List.length_cons, Nat.succ_mul]; omega
      rw [this, hxl]
    · have hpos : 0 < m * k := Nat.mul_pos (by omega) hk
      exact hlt (.cell a.block a.off) (by rw [hx.2]; exact List.mem_append_left _ (row_mem a _ hpos))
    · have hj : j / k * k + j % k = j := Nat.div_add_mod' j k
      rw [← hj, flat_get mk k hmk xs (j / k) (j % k) (Nat.mod_lt _ hk)] at hu
      cases hxi : xs[j / k]? with
      | none => rw [hxi] at hu; cases hu
      | some x =>
        rw [hxi] at hu
        have := (hxs (j / k) x hxi).2 (j % k) u hu
        rwa [hj] at this
    · obtain ⟨i, hil, rfl⟩ := List.getElem_of_mem hx1
      exact (hxs i _ (List.getElem?_eq_getElem hil)).1
set_option maxRecDepth 100000 in
theorem open_chrows {w : World} {v : Value} {d : DataW H} {ps : List MemPlace} {b0 : Nat}
    (hv : Value.okWide Tryz.prog w .any b0 81 v) (h : DataW.Trod enc Tryz.prog w 0 (fun _ => true) true 81 v d ps) (hlt : ∀ x ∈ ps, x.block < w.heap.size) :
    ∃ (A : Option Addr) (cap : Nat) (rows : List (List PChange)), v = .slice A rows.length cap ∧ rows.length ≤ maxLen ∧ ChRws w w.heap.size A rows := by
  obtain ⟨a0, len, cap, rfl⟩ := okWide_slice Tryz.underlying81 hv
  obtain ⟨fuel, hf⟩ := h
  rcases Deep.open_slice1 Tryz.underlying81 (by kernel_rfl) hf with ⟨hv', _⟩ | ⟨a, len', cap', m, n, V, D, Pl, hv', _, hl, hm, hmm, hx, hi⟩
  · simp only [Value.cells] at hv'
    obtain ⟨rfl, rfl, rfl⟩ : a0 = none ∧ len = 0 ∧ cap = 0 := by simpa using hv'
    exact ⟨none, 0, [], rfl, Nat.zero_le _, ChRws.nil⟩
  · obtain ⟨rfl, rfl, rfl⟩ : a0 = some a ∧ len = len' ∧ cap = cap' := by simpa [Value.cells] using hv'
    simp only [if_true] at hmm
    subst hmm
    have hpl : ∀ i, i < m → ∀ x ∈ Pl i, x.block < w.heap.size := fun i hi2 x hx2 => hlt x (by
      simp only [Prod.mk.injEq] at hx
      rw [hx.2]
      exact List.mem_append_right _ (List.mem_flatMap.2 ⟨i, List.mem_range.2 hi2, hx2⟩))
    have each : ∀ i, i < len → ∃ r : List PChange, ∃ A' c, w.cell? (a.add i) = some (.slice A' r.length c) ∧ r.length ≤ c ∧ c ≤ maxLen ∧ Reads w w.heap.size 3 A' r.length (chL r) := by
      intro i hil
      obtain ⟨h1, h2⟩ := hi i (by omega)
      obtain ⟨A', l', c', r, h3, h4, h5, h6, h7, _⟩ := open_listTS (α := PChange) (fun c => [.string c.key, .bool c.has, .string c.value]) (fun c => c.key.size ≤ maxLen ∧ c.value.size ≤ maxLen) Tryz.underlying38 (by kernel_rfl) (by omega) (fun _ => rfl) (fun n cs y hl hy _ => open_chg n cs y hl hy) h2 (hpl i (by omega))
      subst h6
      have e : V i = .slice A' r.length c' := by
        have h3 : [V i] = [Value.slice A' r.length c'] := h3
        injection h3
      exact ⟨r, A', c', h1.trans (by rw [e]), h4, h5, h7⟩
    obtain ⟨rows, hrl, hr⟩ := list_of_each len each
    subst hrl
    refine ⟨some a, m, rows, rfl, by omega, fun hn => ⟨a, rfl, ?_, hr⟩⟩
    simp only [Prod.mk.injEq] at hx
    exact hlt (.cell a.block a.off) (by rw [hx.2]; exact List.mem_append_left _ (row_mem a _ (by omega)))
end
end Go.Proofs.YtmlnhjfdhjachaaGreat

/-
  Reading all keys alone: what it turns in the heap. No condition.
-/
namespace Go.Proofs.YtmlnhjfdhjachaaGreat
set_option linter.unusedVariables false
open Go.ChangeShapes Go.WideShapes Go.ChangeAt Go.RowKit
open Go.ChangeMaps (setBlock)

theorem view_alone2 {S S' : PHeap} {s' : PView} {xs : List (PAct × PGot)} {m th e : Int} {c : PCfg} {tx : Nat → Option ByteArray} {st : Nat → List PVersion} {pn : Nat → Int} (hc : c.Right) (hth : 0 ≤ th) (hL : Laid S c tx st pn e) (hfree : ∀ j : Nat, (j : Int) < c.pins → pn j = 0) (L : Nat) (hL100 : L ≤ 100) (hlen : ∀ j, (st j).length ≤ L)
    (h : Runs viewRout S (newView c th) xs S' s') (hst : m ≤ (xs.length : Nat) ∨ viewRout.can S' s' = false) (hm : c.shelves * (4 + 2 * (L : Int)) + 20 ≤ m) :
    s'.part = 6 ∧ s'.code = 0 ∧ s'.seen = seenAt e tx st c.shelves.toNat ∧ s'.mark = 3 ∧ Laid S' c tx st pn e ∧ S'.last = S.last ∧ S'.blocks.length = S.blocks.length ∧ xs.length = 4 + actsFrom e tx st c.shelves.toNat 0 ∧ ∃ (j : Nat) (a : Int), (j : Int) < c.pins ∧ S' = (S.set 1 (3 + j) a).set 1 (3 + j) 0 := by
  have hp := hc.pins
  have hsh := hc.shelves
  have hdl : (0 : Int) ≤ c.shelves * (4 + 2 * (L : Int)) := Int.mul_nonneg (by omega) (by omega)
  generalize hP : c.shelves * (4 + 2 * (L : Int)) = P at *
  rw [newView_vw c hc] at h
  -- the pin
  have W1 : Within (pinRout c).act (pinRout c).take viewRout.act viewRout.take (fun k s => (vw1 c k s).settle1) := vwithin1 c
  obtain ⟨x1, x2, S1, s1, rfl, r1, r2, d1⟩ := runs_split W1 xs 0 (newPin c th) h
  have st1 := split_stop W1 r2 d1 hst
  have g1 := pin_alone hc hth hL.epoch hL.pins r1 st1 (by omega)
  have hff : pn (th % c.pins).toNat = 0 := hfree _ (by have := Int.emod_nonneg th (b := c.pins) (by omega); have := Int.emod_lt_of_pos th (b := c.pins) (by omega); omega)
  obtain ⟨j, hj, hp5, htk, hpi, hep, hS1, hl1⟩ : ∃ j : Nat, (j : Int) < c.pins ∧ s1.part = 5 ∧ s1.taken = false ∧ s1.pin = j ∧ s1.epoch = e ∧ S1 = S.set 1 (3 + j) (IntKind.u64.wrap (e + 1)) ∧ x1.length = 3 := by
    rcases g1 with ⟨j, i, ⟨i1, i2, i3, i4⟩, j1, j2, j3, j4, j5, j6, j7, j8⟩ | ⟨j1, _⟩
    · have hi0 : i = 0 := by
        rcases Int.lt_or_eq_of_le i1 with h | h
        · exact absurd (by rw [Int.add_zero, Int.emod_emod_of_dvd _ (Int.dvd_refl _)]; exact hff) (i4 0 (Int.le_refl _) h)
        · exact h.symm
      exact ⟨j, j1, j3, j4, j5, j6, j7, by omega⟩
    · exact absurd (hfree 0 (by omega)) (j1 0 (by omega))
  have hst2 := rest_stop hst
  have hne : ¬ (0 : Int) = c.shelves := by omega
  have e2 : (vw1 c (0 + x1.length) s1).settle1 = vw2 c s1 3 3 ((0 : Nat) : Int) 0 ByteArray.empty (newChain 0 0) (seenAt e tx st 0) := by
    rw [hl1]
    simp [PView.settle1, vw1, hp5, htk, vw2, hne, seenAt]
  rw [e2] at r2
  have hL1 : Laid S1 c tx st (fun i => if i = j then IntKind.u64.wrap (e + 1) else pn i) e := by rw [hS1]; exact hL.pin hc j hj _
  have hcs : ((c.shelves.toNat : Nat) : Int) = c.shelves := by omega
  obtain ⟨k1, k2, k3, k4, k5, k6⟩ := view_run hc hL1 L hL100 hlen hj hpi hep c.shelves.toNat 0 (by omega) r2 hst2 (by rw [hcs, hP]; omega)
  refine ⟨k1, k2, by rw [k3, Nat.add_zero], by rw [k4]; exact wrap_small 3 (by decide), ?_, by rw [k5, hS1]; rfl, ?_, ?_⟩
  · rw [k5]
    refine (hL1.pin hc j hj 0).alike fun i hi => ?_
    by_cases hij : i = j
    · rw [if_pos hij, hij]; exact (hfree j hj).symm
    · rw [if_neg hij, if_neg hij]
  · rw [k5, hS1]
    simp [PHeap.set]
  · refine ⟨?_, j, IntKind.u64.wrap (e + 1), hj, by rw [k5, hS1]⟩
    rw [List.length_append, hl1, k6]
    omega
end Go.Proofs.YtmlnhjfdhjachaaGreat
