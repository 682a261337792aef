/-
  The walk over the law of reading's bound (layer 26). No condition.
-/
import Derived.Test.YtfelkkbgbgnpaaaReadO
import Derived.Test.YtfelkkbgbgnpaaaReadY
import Derived.Test.YtfelkkbgbgnpaaaReadG
import Derived.Test.YtfelkkbgbgnpaaaDuo
import Derived.Deep.CutRange
import Derived.Deep.RegionHeld3
import Derived.StillTailTactics
namespace Go.Proofs.Ytfelkkbgbgnpaaa
set_option linter.unusedVariables false
open Go.ChangeShapes Go.WideShapes Go.ChangeAt Go.RowKit
open Go.ChangeMaps (setBlock)

def cfgB (c : PCfg) : Obj := Obj.cells #[.int .i64 c.cap, .int .i64 c.pins, .int .i64 c.shelves, .int .i64 c.queue, .int .i64 c.watchers, .int .u64 c.seed] 24
/-- What is going on: the heap, the routine, how many acts it took and may still take. -/
structure Bnd (w w1 : World) (c : PCfg) (p : Nat) (k : Nat) (hb b : Nat) (a : Int) (S : PHeap) (F : Nat → Prop) (s : PRead) (pn : Nat → Int) (n : Int) (wr : World) : Prop where
  duo : Duo readRout w1 hb S F [(w.heap.size, cfgB c)] b s wr
  one : One c ⟨#[97]⟩ p S k pn
  stage : Stage c ⟨#[97]⟩ p S k pn s n
  acts : 0 ≤ a
  most : a + n ≤ 10 + 2 * k
  last : S.last ≤ 3 + 2 * k
def RB1 (w w1 : World) (len : Nat) (c : PCfg) (p hb b : Nat) (sv av ev iv : Value) (wr : World) : Prop :=
  ∃ (k : Nat) (a : Int) (S : PHeap) (F : Nat → Prop) (s : PRead) (pn : Nat → Int) (n : Int), k ≤ len ∧ iv = .int .i64 k ∧ sv = .int .i64 k ∧ ev = .int .u64 k ∧ av = .int .i64 a ∧ Bnd w w1 c p k hb b a S F s pn n wr
def RB2 (w w1 : World) (c : PCfg) (p k hb b : Nat) (av jv : Value) (wr : World) : Prop :=
  ∃ (j : Nat) (a : Int) (S : PHeap) (F : Nat → Prop) (s : PRead) (pn : Nat → Int) (n : Int), j ≤ 4 ∧ jv = .int .i64 j ∧ av = .int .i64 a ∧ Bnd w w1 c p k hb b a S F s pn n wr
variable {c : PCfg} {p k hb b : Nat} {a : Int} {S : PHeap} {F : Nat → Prop} {s : PRead} {pn : Nat → Int} {n : Int} {w w1 wr w' : World}
theorem Bnd.below (h : Bnd w w1 c p k hb b a S F s pn n wr) (hb' : Below wr.heap.size wr w') : Bnd w w1 c p k hb b a S F s pn n w' := ⟨h.duo.below hb', h.one, h.stage, h.acts, h.most, h.last⟩
theorem one_look {key : ByteArray} {E : Int} (hc : c.Right) (hO : One c key p S E pn) : ∃ tx st, Laid S c tx st pn E ∧ tx p = some key ∧ Fall E (st p) ∧ (lookP key (plN c key) tx c.shelves.toNat 0).1 = 1 ∧ (lookP key (plN c key) tx c.shelves.toNat 0).2.1 = (p : Nat) := by
  obtain ⟨⟨tx, st, hL, h1, h2⟩, h3, _⟩ := hO
  have hsh := hc.shelves
  obtain ⟨d, hd⟩ : ∃ d, c.shelves.toNat = d + 1 := ⟨c.shelves.toNat - 1, by omega⟩
  refine ⟨tx, st, hL, h1, h2, ?_⟩
  rw [hd]
  unfold lookP
  rw [h3, h1]
  simp
theorem Bnd.faults (h : Bnd w w1 c p k hb b a S F s pn n wr) : S.faults = 0 := by
  obtain ⟨⟨_, _, hL, _⟩, _⟩ := h.one
  exact hL.faults
theorem Bnd.kind (hc : c.Right) (h : Bnd w w1 c p k hb b a S F s pn n wr) : (readRout.act s).1.kind ≠ 8 := by
  rcases Classical.em (s.part = 5) with h5 | h5
  · have e : readRout.act s = (noAct, false) := by show PRead.act s = _; simp [PRead.act, h5]
    rw [e]
    decide
  · obtain ⟨x, hx⟩ := stage_step hc h.one h.stage h5
    have e : readRout.act s = (x, true) := hx.act
    rw [e]
    exact hx.kind
/-- A step of the routine. -/
theorem Bnd.next (hc : c.Right) (hk : k ≤ 30) (h : Bnd w w1 c p k hb b a S F s pn n wr) :
    Calls Try.prog 32 #[.pointer (some ⟨hb, 0, none⟩), .iface readRout.T (.pointer (some ⟨b, 0, none⟩))] wr fun e w' => ∃ x g is S' F' s' pn' n', e = .returned (.tuple #[stepV 0 x g, .bool is]) ∧ Bnd w w1 c p k hb b (if is then a + 1 else a) S' F' s' pn' n' w' := by
  have hla := h.last
  refine (h.duo.next (by rw [h.faults]; decide) (by omega)).mono ?_
  rintro e w' ⟨x, g, is, S', F', s', he, hD, hdid⟩
  rcases hdid with ⟨rfl, _, rfl, rfl⟩ | ⟨rfl, hcan, r, rfl, rfl⟩
  · exact ⟨x, g, false, _, F', _, pn, n, he, hD, h.one, h.stage, h.acts, h.most, h.last⟩
  · have h5 : s.part ≠ 5 := fun h5 => by
      have e : readRout.act s = (noAct, false) := by show PRead.act s = _; simp [PRead.act, h5]
      unfold Rout.can at hcan
      rw [e] at hcan
      cases hcan
    obtain ⟨y, hy⟩ := stage_step hc h.one h.stage h5
    have e2 : readRout.act s = (y, true) := hy.act
    obtain ⟨pn', n', k1, k2, k3, k4⟩ := hy.next r
    have ha := h.acts
    have hm := h.most
    rw [e2] at hD
    exact ⟨x, g, true, _, F', _, pn', n', he, hD, k1, k2, by simp only [if_true]; omega, by simp only [if_true]; omega, by show (S.act y r).2.last ≤ _; rw [k4]; exact h.last⟩
/-- A version is laid. -/
theorem Bnd.lay (hc : c.Right) (hk : k < 30) (h : Bnd w w1 c p k hb b a S F s pn n wr) {has : Bool} {value : ByteArray} (hv : value.size ≤ 100) :
    Calls Try.prog 23 #[.pointer (some ⟨hb, 0, none⟩), .agg #[.int .i64 c.cap, .int .i64 c.pins, .int .i64 c.shelves, .int .i64 c.queue, .int .i64 c.watchers, .int .u64 c.seed], .int .u64 ((k : Int) + 1), .agg #[.string ⟨#[97]⟩, .bool has, .string value]] wr fun e w' => ∃ S' F', (e = .returned (.bool true) ∧ (∃ tx st, Laid S' c tx st pn k ∧ tx p = some ⟨#[97]⟩ ∧ Fall (k + 1) (st p)) ∧ S'.last ≤ S.last + 2 ∧ ∀ j y, 2 ≤ j → S.find j = some y → S'.find j = some y) ∧ Duo readRout w1 hb S' F' [(w.heap.size, cfgB c)] b s w' := by
  obtain ⟨tx, st, hL, h1, h2, h3, h4⟩ := one_look hc h.one
  have hla := h.last
  have hp : (p : Int) < c.shelves := by rw [← h.one.place]; exact (plN_eq hc _ 0).2
  refine h.duo.call (P := fun e S' => e = .returned (.bool true) ∧ (∃ tx st, Laid S' c tx st pn k ∧ tx p = some ⟨#[97]⟩ ∧ Fall (k + 1) (st p)) ∧ S'.last ≤ S.last + 2 ∧ ∀ j y, 2 ≤ j → S.find j = some y → S'.find j = some y) fun K' o => ?_
  refine (layHere_any (value := value) (has := has) (ep := (k : Int) + 1) hc o hL (by omega) (by decide) (by omega) (by omega) p hp h3 h4).mono ?_
  rintro x w' ⟨S', F', bk, rfl, k1, k2, k3, k4, k5⟩
  refine ⟨S', F', ⟨rfl, ⟨tx, _, k2, h1, ?_⟩, k3, k4⟩, k1, k5⟩
  unfold putS
  rw [if_pos rfl]
  exact ⟨rfl, by rw [Int.add_sub_cancel]; exact h2⟩
/-- The epoch goes on. -/
theorem Bnd.store (hc : c.Right) (hk : k < 30) (h : Bnd w w1 c p k hb b a S F s pn n wr) {S5 : PHeap} {F5 : Nat → Prop} {w5 : World} (hD : Duo readRout w1 hb S5 F5 [(w.heap.size, cfgB c)] b s w5) (hL : ∃ tx st, Laid S5 c tx st pn k ∧ tx p = some ⟨#[97]⟩ ∧ Fall (k + 1) (st p)) (hla : S5.last ≤ S.last + 2) (hold : ∀ j y, 2 ≤ j → S.find j = some y → S5.find j = some y) :
    Calls Try.prog 33 #[.pointer (some ⟨hb, 0, none⟩), .agg #[.int .i64 2, .int .u64 1, .int .i64 0, .int .u64 0, .int .u64 ((k : Int) + 1), .string ⟨#[]⟩]] w5 fun e w' => ∃ g S' F' n', e = .returned g ∧ Bnd w w1 c p (k + 1) hb b a S' F' s pn n' w' := by
  obtain ⟨tx, st, hL, h1, h2⟩ := hL
  have hla0 := h.last
  have hT : Calls Try.prog 33 #[.pointer (some ⟨hb, 0, none⟩), .agg #[.int .i64 2, .int .u64 1, .int .i64 0, .int .u64 0, .int .u64 ((k : Int) + 1), .string ⟨#[]⟩]] w5 fun e w' => ∃ S', (∃ g, e = .returned g ∧ S' = S5.set 1 0 ((k : Int) + 1)) ∧ Turned F5 hb S' w5 w' := (do_ctl_store hD.own.own.heap (i := 0) (by decide) hL.epoch ((k : Int) + 1) (by omega) hL.faults (by omega)).mono fun e w' ⟨g, he, ht⟩ => ⟨_, ⟨g, he, rfl⟩, ht⟩
  refine (hD.turn (P := fun e S' => ∃ g, e = .returned g ∧ S' = S5.set 1 0 ((k : Int) + 1)) hT).mono ?_
  rintro e w' ⟨S', F', ⟨g, he, rfl⟩, hD'⟩
  obtain ⟨n', k1, k2⟩ := h.stage.raise (S' := S5.set 1 0 ((k : Int) + 1)) (fun j y hj hy => by rw [find_other _ _ _ _ _ (by omega)]; exact hold j y hj hy)
  have hm := h.most
  have hz := h.one.zero
  refine ⟨g, _, F', n', he, hD', ⟨⟨tx, st, hL.at_epoch hc _, h1, h2⟩, h.one.place, by omega⟩, k1, h.acts, by omega, by show S5.last ≤ _; omega⟩
/-- It goes on alone, to its end. -/
theorem Bnd.alone (hc : c.Right) (hk : k ≤ 30) (h : Bnd w w1 c p k hb b a S F s pn n wr) :
    Calls Try.prog 27 #[.pointer (some ⟨hb, 0, none⟩), .iface readRout.T (.pointer (some ⟨b, 0, none⟩)), .int .i64 10000] wr fun e w' => ∃ S' F' s', ∃ n' : Nat, e = .returned (.tuple #[.int .i64 n', .bool true]) ∧ Duo readRout w1 hb S' F' [(w.heap.size, cfgB c)] b s' w' ∧ s'.part = 5 ∧ s'.code = 0 ∧ S'.faults = 0 ∧ a + n' ≤ 10 + 2 * k := by
  have hla := h.last
  have hm := h.most
  have ha := h.acts
  refine (h.duo.alone (by rw [h.faults]; decide) (by omega) 10000 (by decide)).mono ?_
  rintro e w' ⟨xs, S', s', F', hRun, hstop, rfl, hD⟩
  obtain ⟨pn', n', k1, k2, k3, k4⟩ := stage_run hc xs h.one h.stage hRun
  have hp := k2.pos
  have hcan : readRout.can S' s' = false := by
    rcases hstop with h1 | h1
    · omega
    · exact h1
  obtain ⟨h5, h6⟩ := stage_stop hc k1 k2 hcan
  have hact : (readRout.act s').2 = false := by show (PRead.act s').2 = false; rw [PRead.act5 h5]
  obtain ⟨⟨_, _, hL, _⟩, _⟩ := k1
  refine ⟨S', F', s', xs.length, by rw [hact]; rfl, hD, h5, h6, hL.faults, by omega⟩
theorem told_five {s : PRead} (h5 : s.part = 5) (h0 : s.code = 0) : ∃ rk rv rm, toldC s = #[.int .i64 0, .int .i64 0, .int .i64 0, .bool rk, .string rv, .slice none 0 0, .int .i64 0, .slice none 0 0, .int .i64 rm, .int .u64 0] := by
  unfold toldC
  rw [if_pos h5, h0]
  exact ⟨_, _, _, rfl⟩
theorem told_not {s : PRead} (h5 : ¬ s.part = 5) : toldC s = #[.int .i64 0, .int .i64 0, .int .i64 0, .bool false, .string ⟨#[]⟩, .slice none 0 0, .int .i64 0, .slice none 0 0, .int .i64 0, .int .u64 0] := by
  unfold toldC
  rw [if_neg h5]
theorem Bnd.code (h : Bnd w w1 c p k hb b a S F s pn n wr) (h5 : s.part = 5) : s.code = 0 := by
  have hs := h.stage
  cases hs <;> first | assumption | (simp at h5)
end Go.Proofs.Ytfelkkbgbgnpaaa
