import Derived.Deep.CutRange
import Derived.Deep.RegionHeld3
import Derived.StillTailTactics
import Derived.Test.YtmlnhjfdhjachaaGreatQva10
/-
  Pinning alone (layer 25): the plain law. No condition.
-/
namespace Go.Proofs.YtmlnhjfdhjachaaGreat
set_option linter.unusedVariables false
open Go.ChangeShapes Go.WideShapes Go.ChangeAt Go.RowKit
open Go.ChangeMaps (setBlock)

/-- The pins' cells hold what a row says. -/
def PinsAt (S : PHeap) (x : Nat → Int) (n : Int) : Prop := ∀ j : Nat, (j : Int) < n → CtlAt S (3 + j) (x j)
def PinGot (c : PCfg) (S : PHeap) (x : Nat → Int) (e : Int) (first t : Int) (S' : PHeap) (s' : PPin) (n : Nat) : Prop :=
  ∃ (j : Nat) (i : Int), (t ≤ i ∧ i < c.pins ∧ (first + i) % c.pins = j ∧ ∀ i', t ≤ i' → i' < i → x ((first + i') % c.pins).toNat ≠ 0) ∧ (j : Int) < c.pins ∧ x j = 0 ∧ s'.part = 5 ∧ s'.taken = false ∧ s'.pin = j ∧ s'.epoch = e ∧ S' = S.set 1 (3 + j) (IntKind.u64.wrap (e + 1)) ∧ (n : Int) = i - t + 2
def PinNone (c : PCfg) (S : PHeap) (x : Nat → Int) (first t : Int) (S' : PHeap) (s' : PPin) (n : Nat) : Prop :=
  (∀ i, t ≤ i → i < c.pins → x ((first + i) % c.pins).toNat ≠ 0) ∧ s'.part = 5 ∧ s'.taken = true ∧ S' = S ∧ (n : Int) = c.pins - t
theorem runs_stop {c : PCfg} {S S' : PHeap} {s s' : PPin} {xs : List (PAct × PGot)} (hi : PinInv c s) (hp : s.part = 5) (h : Runs (pinRout c) S s xs S' s') : xs = [] ∧ S' = S ∧ s' = s := by
  match xs, h with
  | [], h => exact ⟨rfl, h.1.symm, h.2.symm⟩
  | y :: l, h =>
    obtain ⟨h1, _⟩ := h
    rw [can_pin hi, hp] at h1
    cases h1
theorem pin_tries {c : PCfg} {S : PHeap} {x : Nat → Int} {e : Int} (he : CtlAt S 0 e) (hx : PinsAt S x c.pins) : ∀ (d : Nat) (s : PPin) {S' : PHeap} {s' : PPin} {xs : List (PAct × PGot)} {m : Int}, PinInv c s → s.part = 2 → s.taken = false → s.epoch = e → (d : Int) = c.pins - s.tried →
    Runs (pinRout c) S s xs S' s' → (m ≤ (xs.length : Nat) ∨ (pinRout c).can S' s' = false) → (d : Int) + 2 ≤ m → PinGot c S x e s.first s.tried S' s' xs.length ∨ PinNone c S x s.first s.tried S' s' xs.length
  | 0, s, S', s', xs, m, hi, hp, htk, hep, hd, h, hst, hm => by have := hi.two (.inl hp); omega
  | d + 1, s, S', s', xs, m, hi, hp, htk, hep, hd, h, hst, hm => by
    have hat := hi.at_ok
    obtain ⟨k, hk⟩ : ∃ k : Nat, s.at_ = k := ⟨s.at_.toNat, by omega⟩
    have hat2 : (s.first + s.tried) % c.pins = k := by rw [← hk, ← hi.cfg]; rfl
    have ha := PPin.act2 hp k hk
    have hC := hx k (by omega)
    match xs, h with
    | [], h =>
      obtain ⟨rfl, rfl⟩ := h
      rcases hst with h1 | h1
      · simp at h1; omega
      · rw [can_pin hi, hp] at h1; cases h1
    | y :: l, h =>
      obtain ⟨_, r, _, h⟩ := h
      have hsw : S.act ((pinRout c).act s).1 r = (⟨x k, ByteArray.empty⟩, if x k = 0 then S.set 1 (3 + k) (IntKind.u64.wrap (s.epoch + 1)) else S) := by
        show S.act (PPin.act s).1 r = _
        rw [ha]
        exact hC.swap 0 _ r
      rw [hsw] at h
      have hi2 := hi.take ⟨x k, ByteArray.empty⟩
      by_cases hx0 : x k = 0
      · rw [if_pos hx0] at h
        have hT : (pinRout c).take s ⟨x k, ByteArray.empty⟩ = { s with part := 3 } := PPin.take2a hp _ hx0
        rw [hT] at h
        rw [show s.take ⟨x k, ByteArray.empty⟩ = { s with part := 3 } from hT] at hi2
        have he2 : CtlAt (S.set 1 (3 + k) (IntKind.u64.wrap (s.epoch + 1))) 0 e := he.other _ (by omega)
        have ha3 : PPin.act { s with part := 3 } = (⟨1, 1, ((0 : Nat) : Int), 0, 0, ByteArray.empty⟩, true) := PPin.act1 (.inr rfl)
        match l, h with
        | [], h =>
          obtain ⟨rfl, rfl⟩ := h
          rcases hst with h1 | h1
          · simp at h1; omega
          · rw [can_pin hi2] at h1; cases h1
        | z :: l, h =>
          obtain ⟨_, r2, _, h⟩ := h
          have hld : (S.set 1 (3 + k) (IntKind.u64.wrap (s.epoch + 1))).act ((pinRout c).act { s with part := 3 }).1 r2 = (⟨e, ByteArray.empty⟩, S.set 1 (3 + k) (IntKind.u64.wrap (s.epoch + 1))) := by
            show PHeap.act _ (PPin.act { s with part := 3 }).1 r2 = _
            rw [ha3]
            exact he2.load r2
          rw [hld] at h
          have hT3 : (pinRout c).take { s with part := 3 } ⟨e, ByteArray.empty⟩ = { s with pin := s.at_, part := 5 } := PPin.take3a (s := { s with part := 3 }) rfl ⟨e, ByteArray.empty⟩ hep.symm
          rw [hT3] at h
          have hi3 := hi2.take ⟨e, ByteArray.empty⟩
          rw [show PPin.take { s with part := 3 } ⟨e, ByteArray.empty⟩ = { s with pin := s.at_, part := 5 } from hT3] at hi3
          obtain ⟨rfl, rfl, rfl⟩ := runs_stop hi3 rfl h
          left
          have h2 := hi.two (.inl hp)
          refine ⟨k, s.tried, ⟨Int.le_refl _, h2, hat2, fun i' g1 g2 => by omega⟩, by omega, hx0, rfl, htk, hk, hep, by rw [hep], ?_⟩
          show ((2 : Nat) : Int) = _
          omega
      · rw [if_neg hx0] at h
        by_cases ht : s.tried + 1 = s.cfg.pins
        · have hT : (pinRout c).take s ⟨x k, ByteArray.empty⟩ = { s with tried := s.tried + 1, pin := 0, epoch := 0, taken := true, part := 5 } := PPin.take2b hp _ hx0 ht
          rw [hT] at h
          rw [show s.take ⟨x k, ByteArray.empty⟩ = { s with tried := s.tried + 1, pin := 0, epoch := 0, taken := true, part := 5 } from hT] at hi2
          obtain ⟨rfl, rfl, rfl⟩ := runs_stop hi2 rfl h
          rw [hi.cfg] at ht
          right
          refine ⟨fun i h1 h2 => ?_, rfl, rfl, rfl, ?_⟩
          · have : i = s.tried := by omega
            rw [this, hat2]
            exact hx0
          · show ((1 : Nat) : Int) = _
            omega
        · have hT : (pinRout c).take s ⟨x k, ByteArray.empty⟩ = { s with tried := s.tried + 1 } := PPin.take2c hp _ hx0 ht
          rw [hT] at h
          rw [show s.take ⟨x k, ByteArray.empty⟩ = { s with tried := s.tried + 1 } from hT] at hi2
          have hst2 : m - 1 ≤ (l.length : Nat) ∨ (pinRout c).can S' s' = false := by
            rcases hst with h1 | h1
            · left; simp only [List.length_cons] at h1; omega
            · exact .inr h1
          have := pin_tries he hx d { s with tried := s.tried + 1 } hi2 hp htk hep (by show (d : Int) = c.pins - (s.tried + 1); omega) h hst2 (by omega)
          rcases this with ⟨j, i, ⟨i1, i2, i3, i4⟩, j1, j2, j3, j4, j5, j6, j7, j8⟩ | ⟨j1, j2, j3, j4, j5⟩
          · left
            have i1' : s.tried + 1 ≤ i := i1
            refine ⟨j, i, ⟨by omega, i2, i3, fun i' g1 g2 => ?_⟩, j1, j2, j3, j4, j5, j6, j7, ?_⟩
            · by_cases hi0 : i' = s.tried
              · rw [hi0, hat2]
                exact hx0
              · exact i4 i' (by show s.tried + 1 ≤ i'; omega) g2
            · simp only [List.length_cons]
              have : (l.length : Int) = i - (s.tried + 1) + 2 := j8
              omega
          · right
            refine ⟨fun i h1 h2 => ?_, j2, j3, j4, ?_⟩
            · by_cases hi0 : i = s.tried
              · rw [hi0, hat2]
                exact hx0
              · exact j1 i (by show s.tried + 1 ≤ i; omega) h2
            · simp only [List.length_cons]
              have : (l.length : Int) = c.pins - (s.tried + 1) := j5
              omega
/-- A thread that pins alone. -/
theorem pin_alone {c : PCfg} {S S' : PHeap} {x : Nat → Int} {e th m : Int} {s' : PPin} {xs : List (PAct × PGot)} (hc : c.Right) (hth : 0 ≤ th) (he : CtlAt S 0 e) (hx : PinsAt S x c.pins) (h : Runs (pinRout c) S (newPin c th) xs S' s')
    (hst : m ≤ (xs.length : Nat) ∨ (pinRout c).can S' s' = false) (hm : c.pins + 3 ≤ m) :
    (∃ (j : Nat) (i : Int), (0 ≤ i ∧ i < c.pins ∧ (th % c.pins + i) % c.pins = j ∧ ∀ i', 0 ≤ i' → i' < i → x ((th % c.pins + i') % c.pins).toNat ≠ 0) ∧ (j : Int) < c.pins ∧ x j = 0 ∧ s'.part = 5 ∧ s'.taken = false ∧ s'.pin = j ∧ s'.epoch = e ∧ S' = S.set 1 (3 + j) (IntKind.u64.wrap (e + 1)) ∧ (xs.length : Int) = i + 3) ∨
    ((∀ j : Nat, (j : Int) < c.pins → x j ≠ 0) ∧ s'.part = 5 ∧ s'.taken = true ∧ S' = S ∧ (xs.length : Int) = c.pins + 1) := by
  have hi := newPin_inv c hc th hth
  have hp := hc.pins
  match xs, h with
  | [], h =>
    obtain ⟨rfl, rfl⟩ := h
    rcases hst with h1 | h1
    · simp at h1; omega
    · rw [can_pin hi] at h1; cases h1
  | y :: l, h =>
    obtain ⟨_, r, _, h⟩ := h
    have ha : PPin.act (newPin c th) = (⟨1, 1, ((0 : Nat) : Int), 0, 0, ByteArray.empty⟩, true) := PPin.act1 (.inl rfl)
    have hld : S.act ((pinRout c).act (newPin c th)).1 r = (⟨e, ByteArray.empty⟩, S) := by
      show PHeap.act _ (PPin.act (newPin c th)).1 r = _
      rw [ha]
      exact he.load r
    rw [hld] at h
    have hT : (pinRout c).take (newPin c th) ⟨e, ByteArray.empty⟩ = { newPin c th with epoch := e, part := 2 } := PPin.take1 (s := newPin c th) rfl ⟨e, ByteArray.empty⟩
    rw [hT] at h
    have hi2 := hi.take ⟨e, ByteArray.empty⟩
    rw [show PPin.take (newPin c th) ⟨e, ByteArray.empty⟩ = { newPin c th with epoch := e, part := 2 } from hT] at hi2
    have hst2 : m - 1 ≤ (l.length : Nat) ∨ (pinRout c).can S' s' = false := by
      rcases hst with h1 | h1
      · left; simp only [List.length_cons] at h1; omega
      · exact .inr h1
    have := pin_tries he hx c.pins.toNat { newPin c th with epoch := e, part := 2 } hi2 rfl rfl rfl (by show ((c.pins.toNat : Nat) : Int) = c.pins - 0; omega) h hst2 (by omega)
    rcases this with ⟨j, i, i0, j1, j2, j3, j4, j5, j6, j7, j8⟩ | ⟨j1, j2, j3, j4, j5⟩
    · left
      refine ⟨j, i, i0, j1, j2, j3, j4, j5, j6, j7, ?_⟩
      simp only [List.length_cons]
      have : (l.length : Int) = i - 0 + 2 := j8
      omega
    · right
      refine ⟨fun j hj => ?_, j2, j3, j4, ?_⟩
      · have hf := hi2.first
        have hfe : PPin.first { newPin c th with epoch := e, part := 2 } = th % c.pins := rfl
        rw [hfe] at hf
        have k1 := Int.emod_nonneg ((j : Int) - th % c.pins) (b := c.pins) (by omega)
        have k2 := Int.emod_lt_of_pos ((j : Int) - th % c.pins) (b := c.pins) (by omega)
        have := j1 (((j : Int) - th % c.pins) % c.pins) k1 k2
        rw [hfe] at this
        have e1 : (th % c.pins + ((j : Int) - th % c.pins) % c.pins) % c.pins = j := by
          rw [Int.add_emod_emod, show th % c.pins + ((j : Int) - th % c.pins) = (j : Int) by omega]
          exact Int.emod_eq_of_lt (by omega) hj
        rw [e1] at this
        exact this
      · simp only [List.length_cons]
        have : (l.length : Int) = c.pins - 0 := j5
        omega
end Go.Proofs.YtmlnhjfdhjachaaGreat

/-
  Reading alone (layer 26): the plain law. No condition.
-/
namespace Go.Proofs.YtmlnhjfdhjachaaGreat
set_option linter.unusedVariables false
open Go.ChangeShapes Go.WideShapes Go.ChangeAt Go.RowKit
open Go.ChangeMaps (setBlock)

/-- A run of a routine within another one, and what comes behind it. -/
theorem runs_split {σ τ : Type} {Rt : Rout σ} {RC : Rout τ} {emb : Nat → σ → τ} (W : Within Rt.act Rt.take RC.act RC.take emb) : ∀ (xs : List (PAct × PGot)) (k : Nat) (s : σ) {S S' : PHeap} {c' : τ}, Runs RC S (emb k s) xs S' c' →
    ∃ xs1 xs2 S1 s1, xs = xs1 ++ xs2 ∧ Runs Rt S s xs1 S1 s1 ∧ Runs RC S1 (emb (k + xs1.length) s1) xs2 S' c' ∧ (xs2 = [] ∨ (Rt.act s1).2 = false)
  | [], k, s, S, S', c', h => ⟨[], [], S, s, rfl, ⟨rfl, rfl⟩, h, .inl rfl⟩
  | x :: xs, k, s, S, S', c', h => by
    cases ha : (Rt.act s).2 with
    | false => exact ⟨[], x :: xs, S, s, rfl, ⟨rfl, rfl⟩, h, .inr ha⟩
    | true =>
      obtain ⟨h1, r, hx, h2⟩ := h
      have e := W.hact k s ha
      have hcan : Rt.can S s = true := by
        unfold Rout.can at h1 ⊢
        rw [e] at h1
        exact h1
      rw [e] at hx h2
      rw [W.htake k s _ ha] at h2
      obtain ⟨xs1, xs2, S1, s1, e1, r1, r2, st⟩ := runs_split W xs (k + 1) _ h2
      refine ⟨x :: xs1, xs2, S1, s1, by rw [e1]; rfl, ⟨hcan, r, hx, r1⟩, ?_, st⟩
      rw [show k + (x :: xs1).length = k + 1 + xs1.length by simp; omega]
      exact r2
/-- The inner run stops where the outer one does, or where it is done. -/
theorem split_stop {σ τ : Type} {Rt : Rout σ} {RC : Rout τ} {emb : Nat → σ → τ} (W : Within Rt.act Rt.take RC.act RC.take emb) {xs1 xs2 : List (PAct × PGot)} {k : Nat} {S1 S' : PHeap} {s1 : σ} {c' : τ} {m : Int} (h : Runs RC S1 (emb k s1) xs2 S' c') (hd : xs2 = [] ∨ (Rt.act s1).2 = false) (hst : m ≤ ((xs1 ++ xs2).length : Nat) ∨ RC.can S' c' = false) :
    m ≤ (xs1.length : Nat) ∨ Rt.can S1 s1 = false := by
  cases ha : (Rt.act s1).2 with
  | false => exact .inr (by unfold Rout.can; rw [ha]; rfl)
  | true =>
    rcases hd with rfl | hd
    · obtain ⟨rfl, rfl⟩ := h
      rcases hst with h1 | h1
      · exact .inl (by simpa using h1)
      · right
        unfold Rout.can at h1 ⊢
        rwa [W.hact k s1 ha] at h1
    · rw [ha] at hd; cases hd
theorem rest_stop {xs1 xs2 : List (PAct × PGot)} {m : Int} {p : Prop} (h : m ≤ ((xs1 ++ xs2).length : Nat) ∨ p) : m - xs1.length ≤ (xs2.length : Nat) ∨ p := h.imp (fun e => by rw [List.length_append] at e; omega) id
/-- What lies in a field: the keys on their shelves, each shelf's versions, the pins, the epoch. -/
structure Laid (S : PHeap) (c : PCfg) (tx : Nat → Option ByteArray) (st : Nat → List PVersion) (pn : Nat → Int) (e : Int) : Prop where
  shelved : Shelved S c tx
  stack : ∀ j : Nat, (j : Int) < c.shelves → ∃ x, CtlAt S (kcell c j + 1) x ∧ Chained S x (st j) ∧ (0 ≤ x ∧ x ≤ 18446744073709551615)
  pins : PinsAt S pn c.pins
  epoch : CtlAt S 0 e
  faults : S.faults = 0
theorem set_keys {S : PHeap} {b : Int} {i : Nat} {v : Int} (h : ∀ x ∈ S.blocks, x.key ≤ S.last) : ∀ x ∈ (S.set b i v).blocks, x.key ≤ (S.set b i v).last := fun x hx => by
  obtain ⟨y, hy, rfl⟩ := List.mem_map.1 hx
  have := h y hy
  show (if y.key = b then ({ y with cells := y.cells.set i v } : PBlk) else y).key ≤ S.last
  split <;> exact this
/-- A cell of the control block's head turns: the shelves stay. -/
theorem Laid.head {S : PHeap} {c : PCfg} {tx : Nat → Option ByteArray} {st : Nat → List PVersion} {pn : Nat → Int} {e : Int} (h : Laid S c tx st pn e) (hc : c.Right) (i : Nat) (v : Int) (hi : (i : Int) < 3 + c.pins) :
    Shelved (S.set 1 i v) c tx ∧ (∀ j : Nat, (j : Int) < c.shelves → ∃ x, CtlAt (S.set 1 i v) (kcell c j + 1) x ∧ Chained (S.set 1 i v) x (st j) ∧ (0 ≤ x ∧ x ≤ 18446744073709551615)) := by
  have hold : ∀ k x, 2 ≤ k → S.find k = some x → (S.set 1 i v).find k = some x := fun k x h2 hx => by rw [find_other _ _ _ _ _ (by omega)]; exact hx
  have hcap := hc.cap
  refine ⟨⟨fun j hj => ?_, set_keys h.shelved.keys, h.shelved.one⟩, fun j hj => ?_⟩
  · obtain ⟨x, h1, h2, h3⟩ := h.shelved.at_ j hj
    have hk := kcell_eq hc j
    refine ⟨x, h1.other v (by omega), h2, fun t ht => ?_⟩
    obtain ⟨h4, b, h5, h6⟩ := h3 t ht
    exact ⟨h4, b, hold _ _ h4 h5, h6⟩
  · obtain ⟨x, h1, h2, h3⟩ := h.stack j hj
    have hk := kcell_eq hc j
    exact ⟨x, h1.other v (by omega), Chained.mono hold h2, h3⟩
theorem Laid.pin {S : PHeap} {c : PCfg} {tx : Nat → Option ByteArray} {st : Nat → List PVersion} {pn : Nat → Int} {e : Int} (h : Laid S c tx st pn e) (hc : c.Right) (k : Nat) (hk : (k : Int) < c.pins) (v : Int) : Laid (S.set 1 (3 + k) v) c tx st (fun j => if j = k then v else pn j) e := by
  obtain ⟨h1, h2⟩ := h.head hc (3 + k) v (by omega)
  refine ⟨h1, h2, fun j hj => ?_, h.epoch.other v (by omega), h.faults⟩
  by_cases hjk : j = k
  · subst hjk
    simp only [if_true]
    exact (h.pins j hj).same v
  · simp only [hjk, if_false]
    exact (h.pins j hj).other v (by omega)
theorem Laid.at_epoch {S : PHeap} {c : PCfg} {tx : Nat → Option ByteArray} {st : Nat → List PVersion} {pn : Nat → Int} {e : Int} (h : Laid S c tx st pn e) (hc : c.Right) (v : Int) : Laid (S.set 1 0 v) c tx st pn v := by
  have hp := hc.pins
  obtain ⟨h1, h2⟩ := h.head hc 0 v (by omega)
  exact ⟨h1, h2, fun j hj => (h.pins j hj).other v (by omega), h.epoch.same v, h.faults⟩
theorem Laid.alike {S : PHeap} {c : PCfg} {tx : Nat → Option ByteArray} {st : Nat → List PVersion} {pn pn' : Nat → Int} {e : Int} (h : Laid S c tx st pn e) (hp : ∀ j : Nat, (j : Int) < c.pins → pn j = pn' j) : Laid S c tx st pn' e :=
  ⟨h.shelved, h.stack, fun j hj => by rw [← hp j hj]; exact h.pins j hj, h.epoch, h.faults⟩
end Go.Proofs.YtmlnhjfdhjachaaGreat

/-
  A version more on a shelf (layer 24's Push). No condition.
-/
namespace Go.Proofs.YtmlnhjfdhjachaaGreat
set_option linter.unusedVariables false
open Go.ChangeShapes Go.WideShapes Go.ChangeAt Go.RowKit
open Go.ChangeMaps (setBlock)

theorem VS.ctl {S0 S : PHeap} {nb : Int} {r : Nat} {cells : List Int} {t : ByteArray} (h : VS S0 S nb r cells t) (hnb : nb ≠ 1) {i : Nat} {x : Int} (hc : CtlAt S0 i x) : CtlAt S i x := by
  obtain ⟨b, h1, h2, h3⟩ := hc
  exact ⟨b, (h.old 1 (fun e => hnb e.symm)).trans h1, h2, h3⟩
/-- The chain that begins with the new version. -/
theorem VS.chained {S0 S : PHeap} {r : Nat} {c : PChange} {epoch next : Int} {i : Nat} (h : VS S0 S (S0.last + 1) r [epoch, next, if c.has then 1 else 0] (verText c)) (hk : ∀ x ∈ S0.blocks, x.key ≤ S0.last) (hl : 1 ≤ S0.last) {l : List PVersion} (hc : Chained S0 next l) (v : Int) :
    Chained (S.set 1 i v) (S0.last + 1) (⟨S0.last + 1, epoch, c.has, c.value⟩ :: l) := by
  refine ⟨rfl, by show 2 ≤ S0.last + 1; omega, ⟨S0.last + 1, r, [epoch, next, if c.has then 1 else 0], verText c⟩, ?_, rfl, rfl, rfl, fun hh => ?_, ?_⟩
  · show (S.set 1 i v).find (S0.last + 1) = _
    rw [find_other _ _ _ _ _ (by omega)]
    exact h.new
  · show verText c = c.value
    unfold verText
    rw [if_pos hh]
  · show Chained _ next l
    refine hc.mono fun k x hk2 hx => ?_
    rw [find_other _ _ _ _ _ (by omega), h.old k (fun e => ?_)]
    · exact hx
    · have := hk x (find_mem hx).1
      have := (find_mem hx).2
      omega
theorem chVal (v : PChange) : v.val = .agg #[.string v.key, .bool v.has, .string v.value] := rfl
set_option maxRecDepth 100000 in
set_option maxHeartbeats 8000000 in
theorem push_any (c : PCfg) (hc : c.Right) {w0 w : World} {hb : Nat} {S : PHeap} {F : Nat → Prop} {K : List (Nat × Obj)} (o : OwnK w0 hb S F K w) (sh : Nat) (hsh : (sh : Int) < c.shelves) (hcl : Nat) (hhc : 3 + c.pins + c.cap + 2 * (sh : Int) + 1 = (hcl : Int)) (x : Int) (hx : CtlAt S hcl x) (hx0 : 0 ≤ x ∧ x ≤ 18446744073709551615)
    (epoch : Int) (hep : 0 ≤ epoch ∧ epoch ≤ 18446744073709551615) (v : PChange) (hv : v.value.size ≤ 1000) (hk : ∀ y ∈ S.blocks, y.key ≤ S.last) (hl1 : 1 ≤ S.last ∧ S.last ≤ 1000) (hft : S.faults = 0) :
    Calls Tryz.prog 62 #[.pointer (some ⟨hb, 0, none⟩), c.val, .int .i64 (sh : Int), .int .u64 epoch, v.val] w fun e w' => ∃ S1 F' r, e = .returned (.int .u64 (S.last + 1)) ∧ VS S S1 (S.last + 1) r [epoch, x, if v.has then 1 else 0] (verText v) ∧ OwnK w0 hb (S1.set 1 hcl (S.last + 1)) F' K w' := by
  have hH := fun W => planHead_any c hc (sh : Int) ⟨by omega, hsh⟩ W
  rw [hhc] at hH
  have hNw := fun W => verNew_any W epoch x v
  have hNo := verNew_ok epoch x v hep hx0 hv
  have B0 := (Blk.new w 24 #[.int .i64 c.cap, .int .i64 c.pins, .int .i64 c.shelves, .int .i64 c.queue, .int .i64 c.watchers, .int .u64 c.seed]).alloc (.cells #[.string v.key, .bool v.has, .string v.value] 57)
  have B1 := Blk.new (w.alloc (.cells #[.int .i64 c.cap, .int .i64 c.pins, .int .i64 c.shelves, .int .i64 c.queue, .int .i64 c.watchers, .int .u64 c.seed] 24)) 57 #[.string v.key, .bool v.has, .string v.value]
  simp only [World.size_alloc] at B1
  have oz : OwnK w0 hb S F ((w.heap.size + 1, .cells #[.string v.key, .bool v.has, .string v.value] 57) :: (w.heap.size, .cells #[.int .i64 c.cap, .int .i64 c.pins, .int .i64 c.shelves, .int .i64 c.queue, .int .i64 c.watchers, .int .u64 c.seed] 24) :: K) ((w.alloc (.cells #[.int .i64 c.cap, .int .i64 c.pins, .int .i64 c.shelves, .int .i64 c.queue, .int .i64 c.watchers, .int .u64 c.seed] 24)).alloc (.cells #[.string v.key, .bool v.has, .string v.value] 57)) := by
    have h := (o.add (.cells #[.int .i64 c.cap, .int .i64 c.pins, .int .i64 c.shelves, .int .i64 c.queue, .int .i64 c.watchers, .int .u64 c.seed] 24)).add (.cells #[.string v.key, .bool v.has, .string v.value] 57)
    simpa only [World.size_alloc] using h
  rw [show c.val = .agg #[.int .i64 c.cap, .int .i64 c.pins, .int .i64 c.shelves, .int .i64 c.queue, .int .i64 c.watchers, .int .u64 c.seed] from rfl, chVal] at *
  replace hH := Lib.hid hH
  replace hNw := Lib.hid hNw
  replace hNo := Lib.hid hNo
  replace oz := Lib.hid oz
  replace o := Lib.hid o
  replace hhc := Lib.hid hhc
  replace hx := Lib.hid hx
  replace hk := Lib.hid hk
  clear B0 B1
  generalize hlv : (if v.has = true then (1 : Int) else 0) = lv
  replace hlv := Lib.hid hlv
  go_enter Tryz.func62, Tryz.ntmps62
  go_wp2_with fail
  refine (hH.out _).mono ?_; rintro e w1 ⟨rfl, hb1⟩
  have o1 := oz.out.below hb1
  have hld := ctl_load o1.own.heap hx.out
  have B1 := o1.blk (List.mem_cons_self ..)
  have hc1 := B1.cell 0
  have hc2 := B1.cell 1
  have hc3 := B1.cell 2
  clear hb1 B1
  replace o1 := Lib.hid o1
  replace hld := Lib.hid hld
  clear hc1 hc2 hc3
  go_wp2_with fail
  refine (hld.out).mono ?_; rintro e w2 ⟨rfl, t2⟩
  have o2 := o1.out.turned t2
  have B2 := o2.blk (List.mem_cons_self ..)
  have v0 := B2.cell 0
  have v1 := B2.cell 1
  have v2 := B2.cell 2
  clear t2 B2
  generalize nw F w1 w2 = F2 at *
  replace o2 := Lib.hid o2
  go_wp2_with fail
  refine (hNw.out _).mono ?_; rintro e w3 ⟨b, ar, cc, rfl, hV, hbb, har, hb3⟩
  have o3 := o2.out.below hb3
  have hF2 := o2.out.own.heap.own
  have hw02 := o2.out.own.below.size
  have hVR : VerR w3 (fun k => k = b ∨ k = ar) b (newVer epoch x v) := ⟨fun k hk => by rcases hk with rfl | rfl; exact hV.blk.lt; exact hV.lt, .inl rfl, hNo.out, by show (0 : Int) ≤ 0 ∧ (0 : Int) ≤ 18446744073709551615; decide, ar, cc, .inr rfl, hV⟩
  have hA := alone_own verRout o3.own hVR (fun k h1 h2 => by have := hF2 k h1; rcases h2 with rfl | rfl <;> omega) (fun k hk => by rcases hk with rfl | rfl <;> omega) (by rw [hft]; decide) (by omega) 9 (by decide)
  clear v0 v1 v2
  replace hA := Lib.hid hA
  replace hV := Lib.hid hV
  replace hVR := Lib.hid hVR
  replace hb3 := Lib.hid hb3
  replace o3 := Lib.hid o3
  go_wp2_with fail
  refine (hA.out).mono ?_; rintro e w4 ⟨xs, S4, s4, F4, D4, hRun, hstop, _, rfl, o4, hR4, hnew4, hch4, hoff4⟩
  obtain ⟨r, hVS, hres⟩ := ver_alone hk.out hl1.1 hv hRun (m := 9) hstop (by decide)
  rw [hlv.out] at hVS
  obtain ⟨_, _, _, _, ar4, cc4, _, hV4⟩ := hR4
  have hRes := verResult_any hV4
  rw [hres] at hRes
  have oK4 : OwnK w0 hb S4 F4 ((w.heap.size + 1, .cells #[.string v.key, .bool v.has, .string v.value] 57) :: (w.heap.size, .cells #[.int .i64 c.cap, .int .i64 c.pins, .int .i64 c.shelves, .int .i64 c.queue, .int .i64 c.watchers, .int .u64 c.seed] 24) :: K) w4 := ⟨o4, fun y hy => by
    obtain ⟨k1, k2⟩ := o2.out.keep y hy
    have hyl := o2.out.lt hy
    have hyl3 := o3.out.lt hy
    have hn : ¬ (F2 y.1 ∨ (y.1 = b ∨ y.1 = ar)) := fun h => by
      rcases h with h | h | h
      · exact k2 h
      · omega
      · omega
    refine ⟨(hch4.block _ hyl3 hn).trans (o3.out.keep y hy).1, fun h => ?_⟩
    rcases hnew4 _ (.inl h) with h | h | h
    · exact k2 h
    · exact hn (.inr h)
    · omega⟩
  clear hRun hstop hnew4 hch4 hoff4 o4 hres
  generalize (!(verRout.act s4).2) = dn at *
  replace oK4 := Lib.hid oK4
  replace hRes := Lib.hid hRes
  replace hVS := Lib.hid hVS
  replace hV4 := Lib.hid hV4
  go_wp2_with fail
  refine (hRes.out).mono ?_; rintro e w5 ⟨rfl, hb5⟩
  have o5 := oK4.out.below hb5
  have B5 := o5.blk (List.mem_cons_of_mem _ (List.mem_cons_self ..))
  have c0 := B5.cell 0
  have c1 := B5.cell 1
  have c2 := B5.cell 2
  have c3 := B5.cell 3
  have c4 := B5.cell 4
  have c5 := B5.cell 5
  clear hb5 B5
  replace o5 := Lib.hid o5
  go_wp2_with fail
  refine (hH.out _).mono ?_; rintro e w6 ⟨rfl, hb6⟩
  have o6 := o5.out.below hb6
  have hst := ctl_store o6.own.heap (hVS.out.ctl (by omega) hx.out) (S.last + 1) (by omega)
  clear hb6 c0 c1 c2 c3 c4 c5
  replace o6 := Lib.hid o6
  replace hst := Lib.hid hst
  go_wp2_with fail
  refine (hst.out).mono ?_; rintro e w7 ⟨rfl, t7⟩
  have o7 := (o6.out.turned t7).less.less
  clear t7
  replace o7 := Lib.hid o7
  go_wp2_with fail
  go_ret
  exact ⟨S4, _, r, rfl, hVS.out, o7.out⟩
end Go.Proofs.YtmlnhjfdhjachaaGreat

/-
  A chain read alone; a version pushed; the examples of the law of chains (layer 24). No condition.
-/
namespace Go.Proofs.YtmlnhjfdhjachaaGreat
set_option linter.unusedVariables false
open Go.ChangeShapes Go.WideShapes Go.ChangeAt Go.RowKit
open Go.ChangeMaps (setBlock)

end Go.Proofs.YtmlnhjfdhjachaaGreat

/-
  The law of chains (layer 24): what its loops reckon (the plain law). No condition.
-/
namespace Go.Proofs.YtmlnhjfdhjachaaGreat
set_option linter.unusedVariables false
open Go.ChangeShapes Go.WideShapes Go.ChangeAt Go.RowKit
open Go.ChangeMaps (setBlock)

end Go.Proofs.YtmlnhjfdhjachaaGreat

/-
  Rows of uint64 that the call owns, beside a heap of its own; changes that came in (layer 24). No condition.
-/
namespace Go.Proofs.YtmlnhjfdhjachaaGreat
set_option linter.unusedVariables false
open Go.ChangeShapes Go.WideShapes Go.ChangeAt Go.RowKit
open Go.ChangeMaps (setBlock)

structure URow (v : Value) (g : Nat) (o : Obj) (xs : List Int) : Prop where
  ex : ∃ cap cur, v = .slice (some ⟨g, 0, none⟩) xs.length cap ∧ o = .cells cur 22 ∧ xs.length ≤ cap ∧ cap ≤ maxLen ∧ cur.size = cap * 1 ∧ cur.toList.take (xs.length * 1) = xs.map (Value.int .u64)
theorem URow.nil (g : Nat) : URow (.slice (some ⟨g, 0, none⟩) 0 0) g (.cells #[] 22) [] := ⟨0, #[], rfl, rfl, Nat.le_refl _, Nat.zero_le _, rfl, rfl⟩
theorem URow.own {v : Value} {g : Nat} {o : Obj} {xs : List Int} (h : URow v g o xs) {W : World} {base : Nat} (hW : W.heap[g]? = some o) (hb : base ≤ g) : W.ownsRow base 22 1 v xs.length (xs.map (Value.int .u64)) := by
  obtain ⟨cap, cur, e1, e2, e3, e4, e5, e6⟩ := h.ex
  exact ⟨by simp, .inr ⟨g, cap, cur, e1, hb, by rw [hW, e2], e3, e4, e5, e6⟩⟩
theorem URow.block {v : Value} {g : Nat} {o : Obj} {xs : List Int} (h : URow v g o xs) : v.ownBlock = some g := by
  obtain ⟨cap, cur, e1, _⟩ := h.ex
  rw [e1]
  rfl
theorem URow.slice {v : Value} {g : Nat} {o : Obj} {xs : List Int} (h : URow v g o xs) : ∃ cap, v = .slice (some ⟨g, 0, none⟩) xs.length cap := by
  obtain ⟨cap, cur, e1, _⟩ := h.ex
  exact ⟨cap, e1⟩
theorem URow.of_own {W : World} {base n : Nat} {v : Value} {xs : List Int} (h : W.ownsRow base 22 1 v n (xs.map (Value.int .u64))) (hn : 0 < n) : ∃ g o, W.heap[g]? = some o ∧ URow v g o xs ∧ base ≤ g := by
  have hl : xs.length = n := by have := h.1; simpa using this
  rcases h.2 with ⟨_, h0⟩ | ⟨g, cap, cur, e1, e2, e3, e4, e5, e6, e7⟩
  · omega
  · exact ⟨g, _, e3, ⟨cap, cur, by rw [hl]; exact e1, rfl, by omega, e5, e6, by rw [hl]; exact e7⟩, e2⟩
theorem URow.cell {v : Value} {g : Nat} {o : Obj} {xs : List Int} (h : URow v g o xs) {W : World} (hW : W.heap[g]? = some o) {j : Nat} {x : Int} (hx : xs[j]? = some x) : W.cell? ⟨g, j, none⟩ = some (.int .u64 x) := by
  have h1 := (h.own (base := 0) hW (Nat.zero_le _)).cells (g := g) h.block j (.int .u64 x) (by simp [hx])
  have e2 : (⟨g, 0, none⟩ : Addr).add j = ⟨g, j, none⟩ := by unfold Addr.add; split <;> simp_all
  rw [e2] at h1
  exact h1
theorem OwnK.swap {w0 w : World} {hb : Nat} {S : PHeap} {F : Nat → Prop} {K : List (Nat × Obj)} {a b : Nat × Obj} (h : OwnK w0 hb S F (a :: b :: K) w) : OwnK w0 hb S F (b :: a :: K) w := ⟨h.own, fun x hx => h.keep x (by
  rcases List.mem_cons.1 hx with rfl | hx
  · exact List.mem_cons_of_mem _ (List.mem_cons_self ..)
  · rcases List.mem_cons.1 hx with rfl | hx
    · exact List.mem_cons_self ..
    · exact List.mem_cons_of_mem _ (List.mem_cons_of_mem _ hx))⟩
def chL (l : List PChange) : List Value := l.flatMap fun c => [Value.string c.key, .bool c.has, .string c.value]
theorem chL_at : ∀ (l : List PChange) (k : Nat) (c : PChange), l[k]? = some c → (chL l)[k * 3]? = some (.string c.key) ∧ (chL l)[k * 3 + 1]? = some (.bool c.has) ∧ (chL l)[k * 3 + 2]? = some (.string c.value)
  | [], k, c, h => by simp at h
  | d :: l, 0, c, h => by
    have e : d = c := by simpa using h
    subst e
    exact ⟨rfl, rfl, rfl⟩
  | d :: l, k + 1, c, h => by
    have h2 := chL_at l k c (by simpa using h)
    have e : ∀ j, (chL (d :: l))[j + 3]? = (chL l)[j]? := fun j => by
      show ([Value.string d.key, .bool d.has, .string d.value] ++ chL l)[j + 3]? = _
      rw [List.getElem?_append_right (by simp)]
      rfl
    rw [show (k + 1) * 3 = k * 3 + 3 by omega, e, show k * 3 + 3 + 1 = k * 3 + 1 + 3 by omega, e, show k * 3 + 3 + 2 = k * 3 + 2 + 3 by omega, e]
    exact h2
end Go.Proofs.YtmlnhjfdhjachaaGreat

/-
  What lies in a field, when a key is put, when a version is pushed: the plain law. No condition.
-/
namespace Go.Proofs.YtmlnhjfdhjachaaGreat
set_option linter.unusedVariables false
open Go.ChangeShapes Go.WideShapes Go.ChangeAt Go.RowKit
open Go.ChangeMaps (setBlock)

theorem field_laid (c : PCfg) (hc : c.Right) (r : Nat) : Laid (fieldS c r) c (fun _ => none) (fun _ => []) (fun _ => 0) 0 := by
  have hs := ctlSize_eq hc
  have h1 := hc.pins
  have h2 := hc.cap
  have h3 := hc.shelves
  refine ⟨field_shelved c hc r, fun j hj => ⟨0, field_ctl c r _ (by have := kcell_eq hc j; omega), rfl, by decide⟩, fun j hj => field_ctl c r _ (by omega), field_ctl c r 0 (by omega), rfl⟩
theorem Laid.put {S : PHeap} {c : PCfg} {tx : Nat → Option ByteArray} {st : Nat → List PVersion} {pn : Nat → Int} {e : Int} (h : Laid S c tx st pn e) (hc : c.Right) (p : Nat) (hp : (p : Int) < c.shelves) (r : Nat) (t : ByteArray) :
    Laid ((S.more r t).set 1 (kcell c p) (S.last + 1)) c (putT tx p t) st pn e := by
  have hold : ∀ k x, 2 ≤ k → S.find k = some x → ((S.more r t).set 1 (kcell c p) (S.last + 1)).find k = some x := fun k x h2 hx => by
    rw [find_other _ _ _ _ _ (by omega)]
    exact more_find_old hx r t
  have hkp := kcell_eq hc p
  have h1 := hc.pins
  have h2 := hc.cap
  refine ⟨h.shelved.put p hp r t, fun j hj => ?_, fun j hj => ?_, ?_, h.faults⟩
  · obtain ⟨x, k1, k2, k3⟩ := h.stack j hj
    have hkj := kcell_eq hc j
    exact ⟨x, (k1.more r t).other _ (by omega), Chained.mono hold k2, k3⟩
  · exact ((h.pins j hj).more r t).other _ (by omega)
  · exact (h.epoch.more r t).other _ (by omega)
def putS (st : Nat → List PVersion) (p : Nat) (v : PVersion) : Nat → List PVersion := fun j => if j = p then v :: st j else st j
theorem Laid.push {S S1 : PHeap} {c : PCfg} {tx : Nat → Option ByteArray} {st : Nat → List PVersion} {pn : Nat → Int} {e x ep : Int} {r : Nat} {v : PChange} (h : Laid S c tx st pn e) (hc : c.Right) (p : Nat) (hp : (p : Int) < c.shelves) (hl : S.last ≤ 1000000) (hx : CtlAt S (kcell c p + 1) x) (hch : Chained S x (st p))
    (hVS : VS S S1 (S.last + 1) r [ep, x, if v.has then 1 else 0] (verText v)) : Laid (S1.set 1 (kcell c p + 1) (S.last + 1)) c tx (putS st p ⟨S.last + 1, ep, v.has, v.value⟩) pn e := by
  have hone := h.shelved.one
  have hold : ∀ k y, 2 ≤ k → S.find k = some y → (S1.set 1 (kcell c p + 1) (S.last + 1)).find k = some y := fun k y h2 hy => by
    rw [find_other _ _ _ _ _ (by omega), hVS.old k (fun e => by
      have hm := find_mem hy
      have := h.shelved.keys y hm.1
      rw [hm.2] at this
      omega)]
    exact hy
  have hkp := kcell_eq hc p
  have h1 := hc.pins
  have h2 := hc.cap
  have hne : S.last + 1 ≠ 1 := by omega
  refine ⟨⟨fun j hj => ?_, ?_, by show 1 ≤ S1.last; rw [hVS.last]; omega⟩, fun j hj => ?_, fun j hj => ?_, ?_, by show S1.faults = 0; rw [hVS.faults]; exact h.faults⟩
  · obtain ⟨y, k1, k2, k3⟩ := h.shelved.at_ j hj
    have hkj := kcell_eq hc j
    refine ⟨y, (hVS.ctl hne k1).other _ (by omega), k2, fun t ht => ?_⟩
    obtain ⟨k4, b, k5, k6⟩ := k3 t ht
    exact ⟨k4, b, hold _ _ k4 k5, k6⟩
  · exact set_keys hVS.keys
  · by_cases hjp : j = p
    · subst hjp
      refine ⟨S.last + 1, (hVS.ctl hne hx).same _, ?_, by omega⟩
      unfold putS
      rw [if_pos rfl]
      exact hVS.chained h.shelved.keys hone hch _
    · obtain ⟨y, k1, k2, k3⟩ := h.stack j hj
      have hkj := kcell_eq hc j
      unfold putS
      rw [if_neg hjp]
      exact ⟨y, (hVS.ctl hne k1).other _ (by omega), Chained.mono hold k2, k3⟩
  · exact (hVS.ctl hne (h.pins j hj)).other _ (by omega)
  · exact (hVS.ctl hne h.epoch).other _ (by omega)
end Go.Proofs.YtmlnhjfdhjachaaGreat

/-
  Laying a version (layer 26's law): what it does to a field. No condition.
-/
namespace Go.Proofs.YtmlnhjfdhjachaaGreat
set_option linter.unusedVariables false
open Go.ChangeShapes Go.WideShapes Go.ChangeAt Go.RowKit
open Go.ChangeMaps (setBlock)

set_option maxRecDepth 100000 in
set_option maxHeartbeats 4000000 in
theorem layNo_any {w0 w : World} {hb : Nat} {S : PHeap} {F : Nat → Prop} {K : List (Nat × Obj)} {c : PCfg} {tx : Nat → Option ByteArray} {st : Nat → List PVersion} {pn : Nat → Int} {e ep : Int} {key value : ByteArray} {has : Bool} (hc : c.Right) (o : OwnK w0 hb S F K w) (hL : Laid S c tx st pn e) (hl : S.last ≤ 900)
    (hkey : key.size ≤ 9223372036854775807) (hval : value.size ≤ 1000) (hep : 0 ≤ ep ∧ ep ≤ 18446744073709551615) (h3 : (lookP key (plN c key) tx c.shelves.toNat 0).1 = 3) :
    Calls Tryz.prog 17 #[.pointer (some ⟨hb, 0, none⟩), .agg #[.int .i64 c.cap, .int .i64 c.pins, .int .i64 c.shelves, .int .i64 c.queue, .int .i64 c.watchers, .int .u64 c.seed], .int .u64 ep, .agg #[.string key, .bool has, .string value]] w fun x w' => ∃ F', x = .returned (.bool false) ∧ OwnK w0 hb S F' K w' := by
  have hNw := fun W => findNew_any c key hkey W
  rw [show c.val = .agg #[.int .i64 c.cap, .int .i64 c.pins, .int .i64 c.shelves, .int .i64 c.queue, .int .i64 c.watchers, .int .u64 c.seed] from rfl] at hNw
  have o1 := (o.add (.cells #[.int .i64 c.cap, .int .i64 c.pins, .int .i64 c.shelves, .int .i64 c.queue, .int .i64 c.watchers, .int .u64 c.seed] 24)).add (.cells #[.string key, .bool has, .string value] 57)
  have hb0 := o.own.below.size
  have B0 := o1.blk (List.mem_cons_of_mem _ (List.mem_cons_self ..))
  have B1 := o1.blk (List.mem_cons_self ..)
  simp only [World.size_alloc] at B1
  have c0 := B0.cell 0
  have c1 := B0.cell 1
  have c2 := B0.cell 2
  have c3 := B0.cell 3
  have c4 := B0.cell 4
  have c5 := B0.cell 5
  have v0 := B1.cell 0
  have hsw := o.own.heap.own
  replace hNw := Lib.hid hNw
  replace o := Lib.hid o
  replace o1 := Lib.hid o1
  replace B0 := Lib.hid B0
  replace B1 := Lib.hid B1
  replace hL := Lib.hid hL
  go_enter Tryz.func17, Tryz.ntmps17
  go_wp2_with fail
  refine (hNw.out _).mono ?_; rintro x w1 ⟨b, rfl, hN, hbb, hb1⟩
  simp only [World.size_alloc] at hbb
  have o2 := o1.out.below hb1
  have hA := falone hc o2.own hN (fun h => by have := o1.out.own.heap.own _ h; simp only [World.size_alloc] at this; omega) (by omega) hL.out.shelved hL.out.faults (by omega)
  have hKb : ∀ x ∈ ((w.alloc (.cells #[.int .i64 c.cap, .int .i64 c.pins, .int .i64 c.shelves, .int .i64 c.queue, .int .i64 c.watchers, .int .u64 c.seed] 24)).heap.size, Obj.cells #[.string key, .bool has, .string value] 57) :: (w.heap.size, Obj.cells #[.int .i64 c.cap, .int .i64 c.pins, .int .i64 c.shelves, .int .i64 c.queue, .int .i64 c.watchers, .int .u64 c.seed] 24) :: K, x.1 ≠ b := fun x hx => by have := o1.out.lt hx; simp only [World.size_alloc] at this; omega
  clear hb1 c0 c1 c2 c3 c4 c5 v0
  replace o2 := Lib.hid o2
  replace hN := Lib.hid hN
  replace hA := Lib.hid hA
  replace hKb := Lib.hid hKb
  go_wp2_with fail
  refine (hA.out).mono ?_; rintro x w2 ⟨s, F2, rfl, hLk⟩
  have o3 := o2.out.looked hLk hKb.out
  have hRs := findResult_any hLk.lies
  rw [hLk.res, h3] at hRs
  clear hA hLk
  replace o3 := Lib.hid o3
  replace hRs := Lib.hid hRs
  go_wp2_with fail
  refine (hRs.out).mono ?_; rintro x w3 ⟨rfl, hb3⟩
  have o4 := (o3.out.below hb3).add (.cells #[.int .i64 3, .int .i64 (lookP key (plN c key) tx c.shelves.toNat 0).2.1] 120)
  have R4 := o4.blk (List.mem_cons_self ..)
  have V4 := o4.blk (List.mem_cons_of_mem _ (List.mem_cons_self ..))
  have C4 := o4.blk (List.mem_cons_of_mem _ (List.mem_cons_of_mem _ (List.mem_cons_self ..)))
  simp only [World.size_alloc] at V4
  have r0 := R4.cell 0
  have r1 := R4.cell 1
  have x0 := C4.cell 0
  have x1 := C4.cell 1
  have x2 := C4.cell 2
  have x3 := C4.cell 3
  have x4 := C4.cell 4
  have x5 := C4.cell 5
  have y0 := V4.cell 0
  have y1 := V4.cell 1
  have y2 := V4.cell 2
  have hl4 := R4.lt
  have hl5 := V4.lt
  have hl6 := C4.lt
  simp only [World.size_alloc] at hl4 hl5 hl6
  clear hb3 hRs
  replace o4 := Lib.hid o4
  replace R4 := Lib.hid R4
  replace V4 := Lib.hid V4
  replace C4 := Lib.hid C4
  go_wp2_with fail
  go_ret
  exact ⟨_, rfl, o4.out.less.less.less⟩
/-- A version is pushed: what was there stays. -/
theorem push_old {S S1 : PHeap} {r : Nat} {cells : List Int} {t : ByteArray} (hk : ∀ x ∈ S.blocks, x.key ≤ S.last) (hVS : VS S S1 (S.last + 1) r cells t) (i : Nat) (v : Int) : ∀ k y, 2 ≤ k → S.find k = some y → (S1.set 1 i v).find k = some y := fun k y h2 hy => by
  rw [find_other _ _ _ _ _ (by omega), hVS.old k (fun e => by
    have hm := find_mem hy
    have := hk y hm.1
    rw [hm.2] at this
    omega)]
  exact hy
set_option maxRecDepth 100000 in
set_option maxHeartbeats 4000000 in
theorem layHere_any {w0 w : World} {hb : Nat} {S : PHeap} {F : Nat → Prop} {K : List (Nat × Obj)} {c : PCfg} {tx : Nat → Option ByteArray} {st : Nat → List PVersion} {pn : Nat → Int} {e ep : Int} {key value : ByteArray} {has : Bool} (hc : c.Right) (o : OwnK w0 hb S F K w) (hL : Laid S c tx st pn e) (hl : S.last ≤ 900)
    (hkey : key.size ≤ 9223372036854775807) (hval : value.size ≤ 1000) (hep : 0 ≤ ep ∧ ep ≤ 18446744073709551615) (p : Nat) (hp : (p : Int) < c.shelves) (h1 : (lookP key (plN c key) tx c.shelves.toNat 0).1 = 1) (h2 : (lookP key (plN c key) tx c.shelves.toNat 0).2.1 = p) :
    Calls Tryz.prog 17 #[.pointer (some ⟨hb, 0, none⟩), .agg #[.int .i64 c.cap, .int .i64 c.pins, .int .i64 c.shelves, .int .i64 c.queue, .int .i64 c.watchers, .int .u64 c.seed], .int .u64 ep, .agg #[.string key, .bool has, .string value]] w fun x w' => ∃ S' F' bk, x = .returned (.bool true) ∧ OwnK w0 hb S' F' K w' ∧ Laid S' c tx (putS st p ⟨bk, ep, has, value⟩) pn e ∧ S'.last ≤ S.last + 2 ∧ (∀ k y, 2 ≤ k → S.find k = some y → S'.find k = some y) ∧ w.heap.size ≤ w'.heap.size := by
  have hNw := fun W => findNew_any c key hkey W
  rw [show c.val = .agg #[.int .i64 c.cap, .int .i64 c.pins, .int .i64 c.shelves, .int .i64 c.queue, .int .i64 c.watchers, .int .u64 c.seed] from rfl] at hNw
  have o1 := (o.add (.cells #[.int .i64 c.cap, .int .i64 c.pins, .int .i64 c.shelves, .int .i64 c.queue, .int .i64 c.watchers, .int .u64 c.seed] 24)).add (.cells #[.string key, .bool has, .string value] 57)
  have hb0 := o.own.below.size
  have B0 := o1.blk (List.mem_cons_of_mem _ (List.mem_cons_self ..))
  have B1 := o1.blk (List.mem_cons_self ..)
  simp only [World.size_alloc] at B1
  have c0 := B0.cell 0
  have c1 := B0.cell 1
  have c2 := B0.cell 2
  have c3 := B0.cell 3
  have c4 := B0.cell 4
  have c5 := B0.cell 5
  have v0 := B1.cell 0
  have hsw := o.own.heap.own
  replace hNw := Lib.hid hNw
  replace o := Lib.hid o
  replace o1 := Lib.hid o1
  replace B0 := Lib.hid B0
  replace B1 := Lib.hid B1
  replace hL := Lib.hid hL
  go_enter Tryz.func17, Tryz.ntmps17
  go_wp2_with fail
  refine (hNw.out _).mono ?_; rintro x w1 ⟨b, rfl, hN, hbb, hb1⟩
  simp only [World.size_alloc] at hbb
  have o2 := o1.out.below hb1
  have hA := falone hc o2.own hN (fun h => by have := o1.out.own.heap.own _ h; simp only [World.size_alloc] at this; omega) (by omega) hL.out.shelved hL.out.faults (by omega)
  have hKb : ∀ x ∈ ((w.alloc (.cells #[.int .i64 c.cap, .int .i64 c.pins, .int .i64 c.shelves, .int .i64 c.queue, .int .i64 c.watchers, .int .u64 c.seed] 24)).heap.size, Obj.cells #[.string key, .bool has, .string value] 57) :: (w.heap.size, Obj.cells #[.int .i64 c.cap, .int .i64 c.pins, .int .i64 c.shelves, .int .i64 c.queue, .int .i64 c.watchers, .int .u64 c.seed] 24) :: K, x.1 ≠ b := fun x hx => by have := o1.out.lt hx; simp only [World.size_alloc] at this; omega
  clear hb1 c0 c1 c2 c3 c4 c5 v0
  replace o2 := Lib.hid o2
  replace hN := Lib.hid hN
  replace hA := Lib.hid hA
  replace hKb := Lib.hid hKb
  go_wp2_with fail
  refine (hA.out).mono ?_; rintro x w2 ⟨s, F2, rfl, hLk⟩
  have o3 := o2.out.looked hLk hKb.out
  have hRs := findResult_any hLk.lies
  rw [hLk.res, h1, h2] at hRs
  clear hA hLk
  replace o3 := Lib.hid o3
  replace hRs := Lib.hid hRs
  go_wp2_with fail
  refine (hRs.out).mono ?_; rintro x w3 ⟨rfl, hb3⟩
  have o4 := (o3.out.below hb3).add (.cells #[.int .i64 1, .int .i64 (p : Int)] 120)
  have R4 := o4.blk (List.mem_cons_self ..)
  have V4 := o4.blk (List.mem_cons_of_mem _ (List.mem_cons_self ..))
  have C4 := o4.blk (List.mem_cons_of_mem _ (List.mem_cons_of_mem _ (List.mem_cons_self ..)))
  simp only [World.size_alloc] at V4
  have r0 := R4.cell 0
  have r1 := R4.cell 1
  have x0 := C4.cell 0
  have x1 := C4.cell 1
  have x2 := C4.cell 2
  have x3 := C4.cell 3
  have x4 := C4.cell 4
  have x5 := C4.cell 5
  have y0 := V4.cell 0
  have y1 := V4.cell 1
  have y2 := V4.cell 2
  have hl4 := R4.lt
  have hl5 := V4.lt
  have hl6 := C4.lt
  simp only [World.size_alloc] at hl4 hl5 hl6
  clear hb3 hRs
  obtain ⟨xc, hx1, hx2, hx3⟩ := hL.out.stack p hp
  have hPu := push_any c hc o4 p hp (kcell c p + 1) (by have := kcell_eq hc p; omega) xc hx1 hx3 ep hep ⟨key, has, value⟩ hval hL.out.shelved.keys ⟨hL.out.shelved.one, by omega⟩ hL.out.faults
  rw [show PChange.val ⟨key, has, value⟩ = .agg #[.string key, .bool has, .string value] from rfl, show c.val = .agg #[.int .i64 c.cap, .int .i64 c.pins, .int .i64 c.shelves, .int .i64 c.queue, .int .i64 c.watchers, .int .u64 c.seed] from rfl] at hPu
  replace o4 := Lib.hid o4
  replace R4 := Lib.hid R4
  replace V4 := Lib.hid V4
  replace C4 := Lib.hid C4
  replace hPu := Lib.hid hPu
  replace hx1 := Lib.hid hx1
  replace hx2 := Lib.hid hx2
  replace hx3 := Lib.hid hx3
  go_wp2_with fail
  refine (hPu.out).mono ?_; rintro x w5 ⟨S5, F5, r5, rfl, hVS, o5⟩
  replace hVS := Lib.hid hVS
  replace o5 := Lib.hid o5
  go_wp2_with fail
  go_ret
  exact ⟨_, _, _, rfl, o5.out.less.less.less, hL.out.push (v := ⟨key, has, value⟩) hc p hp (by omega) hx1.out hx2.out hVS.out, by show S5.last ≤ _; rw [hVS.out.last]; omega, push_old hL.out.shelved.keys hVS.out _ _, Nat.le_of_lt (o5.out.lt (List.mem_cons_of_mem _ (List.mem_cons_of_mem _ (List.mem_cons_self ..))))⟩
set_option maxRecDepth 100000 in
set_option maxHeartbeats 4000000 in
theorem layFree_any {w0 w : World} {hb : Nat} {S : PHeap} {F : Nat → Prop} {K : List (Nat × Obj)} {c : PCfg} {tx : Nat → Option ByteArray} {st : Nat → List PVersion} {pn : Nat → Int} {e ep : Int} {key value : ByteArray} {has : Bool} (hc : c.Right) (o : OwnK w0 hb S F K w) (hL : Laid S c tx st pn e) (hl : S.last ≤ 900)
    (hkey : key.size ≤ 9223372036854775807) (hval : value.size ≤ 1000) (hep : 0 ≤ ep ∧ ep ≤ 18446744073709551615) (p : Nat) (hp : (p : Int) < c.shelves) (h1 : (lookP key (plN c key) tx c.shelves.toNat 0).1 = 2) (h2 : (lookP key (plN c key) tx c.shelves.toNat 0).2.1 = p) (htp : tx p = none) :
    Calls Tryz.prog 17 #[.pointer (some ⟨hb, 0, none⟩), .agg #[.int .i64 c.cap, .int .i64 c.pins, .int .i64 c.shelves, .int .i64 c.queue, .int .i64 c.watchers, .int .u64 c.seed], .int .u64 ep, .agg #[.string key, .bool has, .string value]] w fun x w' => ∃ S' F' bk, x = .returned (.bool true) ∧ OwnK w0 hb S' F' K w' ∧ Laid S' c (putT tx p key) (putS st p ⟨bk, ep, has, value⟩) pn e ∧ S'.last ≤ S.last + 2 := by
  have hNw := fun W => findNew_any c key hkey W
  rw [show c.val = .agg #[.int .i64 c.cap, .int .i64 c.pins, .int .i64 c.shelves, .int .i64 c.queue, .int .i64 c.watchers, .int .u64 c.seed] from rfl] at hNw
  have o1 := (o.add (.cells #[.int .i64 c.cap, .int .i64 c.pins, .int .i64 c.shelves, .int .i64 c.queue, .int .i64 c.watchers, .int .u64 c.seed] 24)).add (.cells #[.string key, .bool has, .string value] 57)
  have hb0 := o.own.below.size
  have B0 := o1.blk (List.mem_cons_of_mem _ (List.mem_cons_self ..))
  have B1 := o1.blk (List.mem_cons_self ..)
  simp only [World.size_alloc] at B1
  have c0 := B0.cell 0
  have c1 := B0.cell 1
  have c2 := B0.cell 2
  have c3 := B0.cell 3
  have c4 := B0.cell 4
  have c5 := B0.cell 5
  have v0 := B1.cell 0
  have hsw := o.own.heap.own
  replace hNw := Lib.hid hNw
  replace o := Lib.hid o
  replace o1 := Lib.hid o1
  replace B0 := Lib.hid B0
  replace B1 := Lib.hid B1
  replace hL := Lib.hid hL
  go_enter Tryz.func17, Tryz.ntmps17
  go_wp2_with fail
  refine (hNw.out _).mono ?_; rintro x w1 ⟨b, rfl, hN, hbb, hb1⟩
  simp only [World.size_alloc] at hbb
  have o2 := o1.out.below hb1
  have hA := falone hc o2.own hN (fun h => by have := o1.out.own.heap.own _ h; simp only [World.size_alloc] at this; omega) (by omega) hL.out.shelved hL.out.faults (by omega)
  have hKb : ∀ x ∈ ((w.alloc (.cells #[.int .i64 c.cap, .int .i64 c.pins, .int .i64 c.shelves, .int .i64 c.queue, .int .i64 c.watchers, .int .u64 c.seed] 24)).heap.size, Obj.cells #[.string key, .bool has, .string value] 57) :: (w.heap.size, Obj.cells #[.int .i64 c.cap, .int .i64 c.pins, .int .i64 c.shelves, .int .i64 c.queue, .int .i64 c.watchers, .int .u64 c.seed] 24) :: K, x.1 ≠ b := fun x hx => by have := o1.out.lt hx; simp only [World.size_alloc] at this; omega
  clear hb1 c0 c1 c2 c3 c4 c5 v0
  replace o2 := Lib.hid o2
  replace hN := Lib.hid hN
  replace hA := Lib.hid hA
  replace hKb := Lib.hid hKb
  go_wp2_with fail
  refine (hA.out).mono ?_; rintro x w2 ⟨s, F2, rfl, hLk⟩
  have o3 := o2.out.looked hLk hKb.out
  have hRs := findResult_any hLk.lies
  rw [hLk.res, h1, h2] at hRs
  clear hA hLk
  replace o3 := Lib.hid o3
  replace hRs := Lib.hid hRs
  go_wp2_with fail
  refine (hRs.out).mono ?_; rintro x w3 ⟨rfl, hb3⟩
  have o4 := (o3.out.below hb3).add (.cells #[.int .i64 2, .int .i64 (p : Int)] 120)
  have R4 := o4.blk (List.mem_cons_self ..)
  have V4 := o4.blk (List.mem_cons_of_mem _ (List.mem_cons_self ..))
  have C4 := o4.blk (List.mem_cons_of_mem _ (List.mem_cons_of_mem _ (List.mem_cons_self ..)))
  simp only [World.size_alloc] at V4
  have r0 := R4.cell 0
  have r1 := R4.cell 1
  have x0 := C4.cell 0
  have x1 := C4.cell 1
  have x2 := C4.cell 2
  have x3 := C4.cell 3
  have x4 := C4.cell 4
  have x5 := C4.cell 5
  have y0 := V4.cell 0
  have y1 := V4.cell 1
  have y2 := V4.cell 2
  have hl4 := R4.lt
  have hl5 := V4.lt
  have hl6 := C4.lt
  simp only [World.size_alloc] at hl4 hl5 hl6
  clear hb3 hRs
  have hPp := fun W => planKey_any c hc p ⟨by omega, hp⟩ W
  rw [show 3 + c.pins + c.cap + 2 * (p : Int) = ((kcell c p : Nat) : Int) by rw [kcell_eq hc], show c.val = .agg #[.int .i64 c.cap, .int .i64 c.pins, .int .i64 c.shelves, .int .i64 c.queue, .int .i64 c.watchers, .int .u64 c.seed] from rfl] at hPp
  obtain ⟨k0, hk0, hk1, _⟩ := hL.out.shelved.at_ p hp
  rw [hk1 htp] at hk0
  have hput := fun r => hL.out.put hc p hp r key
  have hcl := kcell_eq hc p
  have hone := hL.out.shelved.one
  have hMk : ∀ W F K, OwnK w0 hb S F K W → Calls Tryz.prog 58 #[.pointer (some ⟨hb, 0, none⟩), .int .i64 0, .string key] W fun e w' => e = .returned (.int .u64 (S.last + 1)) ∧ ∃ r, OwnK w0 hb (S.more r key) (nw F W w') K w' := fun W F K h => (make_more h.own.heap key (by omega)).mono fun e w' ⟨he, r, ht⟩ => ⟨he, r, h.turned ht⟩
  have hSt : ∀ W F K r, OwnK w0 hb (S.more r key) F K W → Calls Tryz.prog 18 #[.pointer (some ⟨hb, 0, none⟩), .int .u64 1, .int .i64 (kcell c p), .int .u64 (S.last + 1)] W fun e w' => e = .returned (.int .i64 0) ∧ ∃ F', OwnK w0 hb ((S.more r key).set 1 (kcell c p) (S.last + 1)) F' K w' := fun W F K r h => (ctl_store h.own.heap (hk0.more r key) (S.last + 1) (by omega)).mono fun e w' ⟨he, ht⟩ => ⟨he, _, h.turned ht⟩
  have hPu : ∀ W S' F' K', OwnK w0 hb S' F' K' W → Laid S' c (putT tx p key) st pn e → S'.last ≤ 1000 → Calls Tryz.prog 62 #[.pointer (some ⟨hb, 0, none⟩), .agg #[.int .i64 c.cap, .int .i64 c.pins, .int .i64 c.shelves, .int .i64 c.queue, .int .i64 c.watchers, .int .u64 c.seed], .int .i64 (p : Int), .int .u64 ep, .agg #[.string key, .bool has, .string value]] W fun x w' => ∃ S2 F2, x = .returned (.int .u64 (S'.last + 1)) ∧ OwnK w0 hb S2 F2 K' w' ∧ Laid S2 c (putT tx p key) (putS st p ⟨S'.last + 1, ep, has, value⟩) pn e ∧ S2.last = S'.last + 1 := by
    intro W S' F' K' oo hL' hl'
    obtain ⟨xc, hx1, hx2, hx3⟩ := hL'.stack p hp
    refine (push_any c hc oo p hp (kcell c p + 1) (by omega) xc hx1 hx3 ep hep ⟨key, has, value⟩ hval hL'.shelved.keys ⟨hL'.shelved.one, hl'⟩ hL'.faults).mono ?_
    rintro x w5 ⟨S5, F5, r5, he, hVS, o5⟩
    exact ⟨_, _, he, o5, hL'.push (v := ⟨key, has, value⟩) hc p hp (by omega) hx1 hx2 hVS, hVS.last⟩
  have hK8 : ∀ W S F, OwnK w0 hb S F ((w3.heap.size, Obj.cells #[.int .i64 2, .int .i64 (p : Int)] 120) :: ((w.alloc (.cells #[.int .i64 c.cap, .int .i64 c.pins, .int .i64 c.shelves, .int .i64 c.queue, .int .i64 c.watchers, .int .u64 c.seed] 24)).heap.size, Obj.cells #[.string key, .bool has, .string value] 57) :: (w.heap.size, Obj.cells #[.int .i64 c.cap, .int .i64 c.pins, .int .i64 c.shelves, .int .i64 c.queue, .int .i64 c.watchers, .int .u64 c.seed] 24) :: K) W → W.cell? ⟨w3.heap.size, 0, none⟩ = some (.int .i64 2) ∧ W.cell? ⟨w3.heap.size, 1, none⟩ = some (.int .i64 (p : Int)) ∧ W.cell? ⟨w.heap.size, 0, none⟩ = some (.int .i64 c.cap) ∧ W.cell? ⟨w.heap.size, 1, none⟩ = some (.int .i64 c.pins) ∧ W.cell? ⟨w.heap.size, 2, none⟩ = some (.int .i64 c.shelves) ∧ W.cell? ⟨w.heap.size, 3, none⟩ = some (.int .i64 c.queue) ∧ W.cell? ⟨w.heap.size, 4, none⟩ = some (.int .i64 c.watchers) ∧ W.cell? ⟨w.heap.size, 5, none⟩ = some (.int .u64 c.seed) ∧ W.cell? ⟨w.heap.size + 1, 0, none⟩ = some (.string key) ∧ W.cell? ⟨w.heap.size + 1, 1, none⟩ = some (.bool has) ∧ W.cell? ⟨w.heap.size + 1, 2, none⟩ = some (.string value) := fun W S F h => by
    have a1 := h.blk (List.mem_cons_self ..)
    have a2 := h.blk (List.mem_cons_of_mem _ (List.mem_cons_self ..))
    have a3 := h.blk (List.mem_cons_of_mem _ (List.mem_cons_of_mem _ (List.mem_cons_self ..)))
    simp only [World.size_alloc] at a2
    exact ⟨a1.cell 0, a1.cell 1, a3.cell 0, a3.cell 1, a3.cell 2, a3.cell 3, a3.cell 4, a3.cell 5, a2.cell 0, a2.cell 1, a2.cell 2⟩
  generalize kcell c p = kp at *
  replace o4 := Lib.hid o4
  replace R4 := Lib.hid R4
  replace V4 := Lib.hid V4
  replace C4 := Lib.hid C4
  replace hPu := Lib.hid hPu
  replace hPp := Lib.hid hPp
  replace hMk := Lib.hid hMk
  replace hSt := Lib.hid hSt
  replace hk0 := Lib.hid hk0
  replace hput := Lib.hid hput
  replace hcl := Lib.hid hcl
  replace hK8 := Lib.hid hK8
  replace htp := Lib.hid htp
  replace hc := Lib.hid hc
  replace hk1 := Lib.hid hk1
  go_upto_region 7 with fail
  go_cut [] from 35 to 44 (fun wx => ∃ S' F', OwnK w0 hb S' F' ((w3.heap.size, Obj.cells #[.int .i64 2, .int .i64 (p : Int)] 120) :: ((w.alloc (.cells #[.int .i64 c.cap, .int .i64 c.pins, .int .i64 c.shelves, .int .i64 c.queue, .int .i64 c.watchers, .int .u64 c.seed] 24)).heap.size, Obj.cells #[.string key, .bool has, .string value] 57) :: (w.heap.size, Obj.cells #[.int .i64 c.cap, .int .i64 c.pins, .int .i64 c.shelves, .int .i64 c.queue, .int .i64 c.watchers, .int .u64 c.seed] 24) :: K) wx ∧ Laid S' c (putT tx p key) st pn e ∧ S'.last = S.last + 1)
  case first =>
    go_region_held3 (fun W => W.cell? ⟨w3.heap.size, 0, none⟩ = some (.int .i64 2) ∧ W.cell? ⟨w3.heap.size, 1, none⟩ = some (.int .i64 (p : Int)) ∧ W.cell? ⟨w.heap.size, 0, none⟩ = some (.int .i64 c.cap) ∧ W.cell? ⟨w.heap.size, 1, none⟩ = some (.int .i64 c.pins) ∧ W.cell? ⟨w.heap.size, 2, none⟩ = some (.int .i64 c.shelves) ∧ W.cell? ⟨w.heap.size, 3, none⟩ = some (.int .i64 c.queue) ∧ W.cell? ⟨w.heap.size, 4, none⟩ = some (.int .i64 c.watchers) ∧ W.cell? ⟨w.heap.size, 5, none⟩ = some (.int .u64 c.seed) ∧ W.cell? ⟨w.heap.size + 1, 0, none⟩ = some (.string key) ∧ W.cell? ⟨w.heap.size + 1, 1, none⟩ = some (.bool has) ∧ W.cell? ⟨w.heap.size + 1, 2, none⟩ = some (.string value))
      (first | assumption | go_keep)
      (first | (go_at_call 39; refine (hPp.out _).mono ?_; rintro e w9 ⟨rfl, hb9⟩; have oC := (by first | exact o4.out.below hb9 | exact o4.out.drew.below hb9 | exact (o4.out.drewN _).below hb9 : OwnK w0 hb S F2 _ w9); have sC := hK8.out _ _ _ oC; replace oC := Lib.hid oC; clear hb9) | (go_at_call 58; refine (hMk.out _ _ _ (by first | exact oC.out | exact oC.out.drew | exact oC.out.drewN _)).mono ?_; rintro e w10 ⟨rfl, r10, oD⟩; have sD := hK8.out _ _ _ oD; replace oD := Lib.hid oD) | (go_at_call 18; refine (hSt.out _ _ _ _ oD.out).mono ?_; rintro e w11 ⟨rfl, F11, oE⟩; have sE := hK8.out _ _ _ oE; replace oE := Lib.hid oE))
    all_goals
      go_wp2_with fail
      go_meet
      case rel => exact ⟨_, _, oE.out, hput.out r10, rfl⟩
  case rest =>
    obtain ⟨S9, F9, o9, hL9, hl9⟩ := hcut
    have hP9 := hPu.out _ _ _ _ o9 hL9 (by omega)
    obtain ⟨z0, z1, z2, z3, z4, z5, z6, z7, z8, z9, z10⟩ := hK8.out _ _ _ o9
    clear r0 r1 x0 x1 x2 x3 x4 x5 y0 y1 y2
    replace o9 := Lib.hid o9
    replace hL9 := Lib.hid hL9
    replace hP9 := Lib.hid hP9
    go_wp2_with fail
    refine (hP9.out).mono ?_; rintro x w5 ⟨S5, F5, rfl, o5, hL5, hl5'⟩
    replace o5 := Lib.hid o5
    replace hL5 := Lib.hid hL5
    go_wp2_with fail
    go_ret
    exact ⟨_, _, _, rfl, o5.out.less.less.less, hL5.out, by omega⟩
end Go.Proofs.YtmlnhjfdhjachaaGreat

/-
  Reading alone what was laid (layer 26): the plain law with pairs. No condition.
-/
namespace Go.Proofs.YtmlnhjfdhjachaaGreat
set_option linter.unusedVariables false

/-- A key's value in pairs. -/
def getP : List (ByteArray × ByteArray) → ByteArray → Bool × ByteArray
  | [], _ => (false, ByteArray.empty)
  | p :: m, k => if p.1 = k then (true, p.2) else getP m k
/-- Pairs in which a key has a value: where it goes is told by 'ge'. -/
def putP (ge : ByteArray → Bool) (k v : ByteArray) : List (ByteArray × ByteArray) → Bool → List (ByteArray × ByteArray)
  | [], d => if d then [] else [(k, v)]
  | p :: m, d => (if d then [] else if ge p.1 then [(k, v)] else []) ++ (if p.1 = k then [] else [p]) ++ putP ge k v m (d || ge p.1)
def delP (m : List (ByteArray × ByteArray)) (k : ByteArray) : List (ByteArray × ByteArray) := m.filter fun p => decide (p.1 ≠ k)
theorem getP_app (a b : List (ByteArray × ByteArray)) (k : ByteArray) : getP (a ++ b) k = if (getP a k).1 then getP a k else getP b k := by
  induction a with
  | nil => rfl
  | cons p a ih =>
    show (if p.1 = k then (true, p.2) else getP (a ++ b) k) = if (if p.1 = k then (true, p.2) else getP a k).1 then (if p.1 = k then (true, p.2) else getP a k) else getP b k
    by_cases h : p.1 = k
    · simp [h]
    · rw [if_neg h, if_neg h, ih]
theorem getP_none (m : List (ByteArray × ByteArray)) (k : ByteArray) (h : (getP m k).1 = false) : getP m k = (false, ByteArray.empty) := by
  induction m with
  | nil => rfl
  | cons p m ih =>
    unfold getP at h ⊢
    by_cases hk : p.1 = k
    · rw [if_pos hk] at h; cases h
    · rw [if_neg hk] at h ⊢; exact ih h
theorem getP_del (m : List (ByteArray × ByteArray)) (k t : ByteArray) : getP (delP m k) t = if t = k then (false, ByteArray.empty) else getP m t := by
  induction m with
  | nil => simp [delP, getP]
  | cons p m ih =>
    by_cases hp : p.1 = k
    · have e : delP (p :: m) k = delP m k := by simp [delP, hp]
      rw [e, ih]
      by_cases ht : t = k
      · rw [if_pos ht, if_pos ht]
      · rw [if_neg ht, if_neg ht]
        show _ = (if p.1 = t then (true, p.2) else getP m t)
        rw [if_neg (fun h => ht (h.symm.trans hp))]
    · have e : delP (p :: m) k = p :: delP m k := by simp [delP, hp]
      rw [e]
      show (if p.1 = t then (true, p.2) else getP (delP m k) t) = _
      rw [ih]
      by_cases ht : t = k
      · rw [if_pos ht, if_pos ht, if_neg (fun h => hp (h.trans ht))]
      · rw [if_neg ht, if_neg ht]
        rfl
/-- Of another key it changes nothing. -/
theorem getP_put_ne (ge : ByteArray → Bool) (k v t : ByteArray) (ht : t ≠ k) : ∀ (m : List (ByteArray × ByteArray)) (d : Bool), getP (putP ge k v m d) t = getP m t
  | [], d => by
    unfold putP
    cases d with
    | true => rfl
    | false => show (if k = t then (true, v) else (false, ByteArray.empty)) = (false, ByteArray.empty); rw [if_neg (fun h => ht h.symm)]
  | p :: m, d => by
    have ih := getP_put_ne ge k v t ht m (d || ge p.1)
    unfold putP
    have e1 : ∀ l, getP ((if d then [] else if ge p.1 then [(k, v)] else []) ++ l) t = getP l t := fun l => by
      have e0 : getP [(k, v)] t = (false, ByteArray.empty) := by show (if k = t then (true, v) else (false, ByteArray.empty)) = _; rw [if_neg (fun h => ht h.symm)]
      rw [getP_app]
      split
      · rfl
      · split
        · rw [e0]; rfl
        · rfl
    rw [List.append_assoc, e1]
    show _ = (if p.1 = t then (true, p.2) else getP m t)
    by_cases hp : p.1 = k
    · rw [if_pos hp, if_neg (fun h => ht (h.symm.trans hp)), List.nil_append, ih]
    · rw [if_neg hp]
      show (if p.1 = t then (true, p.2) else getP (putP ge k v m (d || ge p.1)) t) = _
      rw [ih]
theorem getP_put_same (ge : ByteArray → Bool) (k v : ByteArray) : ∀ (m : List (ByteArray × ByteArray)), getP (putP ge k v m false) k = (true, v)
  | [] => by show (if k = k then _ else _) = _; rw [if_pos rfl]
  | p :: m => by
    unfold putP
    cases hg : ge p.1 with
    | true =>
      show (if k = k then (true, v) else _) = _
      rw [if_pos rfl]
    | false =>
      have ih := getP_put_same ge k v m
      by_cases hp : p.1 = k
      · rw [if_pos hp]; simpa using ih
      · rw [if_neg hp]
        show (if p.1 = k then (true, p.2) else getP (putP ge k v m false) k) = _
        rw [if_neg hp, ih]
theorem getP_put (ge : ByteArray → Bool) (k v t : ByteArray) (m : List (ByteArray × ByteArray)) : getP (putP ge k v m false) t = if t = k then (true, v) else getP m t := by
  by_cases ht : t = k
  · rw [if_pos ht, ht]; exact getP_put_same ge k v m
  · rw [if_neg ht]; exact getP_put_ne ge k v t ht m false
theorem putP_len (ge : ByteArray → Bool) (k v : ByteArray) : ∀ (m : List (ByteArray × ByteArray)) (d : Bool), (putP ge k v m d).length ≤ m.length + if d then 0 else 1
  | [], d => by cases d <;> simp [putP]
  | p :: m, d => by
    have ih := putP_len ge k v m (d || ge p.1)
    unfold putP
    simp only [List.length_append, List.length_cons]
    cases d <;> cases hg : ge p.1 <;> rw [hg] at ih <;> (by_cases hp : p.1 = k <;> simp [hp] at ih ⊢ <;> omega)
theorem readV_fst (e : Int) : ∀ (l : List PVersion) (p q : Int), (readV e l p).1 = (readV e l q).1
  | [], _, _ => rfl
  | v :: l, p, q => by
    have ih := readV_fst e l (p + 1) (q + 1)
    unfold readV
    split
    · exact ih
    · split <;> rfl
/-- What is on the shelves is what the pairs tell, at an epoch. -/
structure Know (c : PCfg) (tx : Nat → Option ByteArray) (st : Nat → List PVersion) (e : Int) (m : List (ByteArray × ByteArray)) : Prop where
  at_ : ∀ p t, tx p = some t → (lookP t (plN c t) tx c.shelves.toNat 0).1 = 1 ∧ (lookP t (plN c t) tx c.shelves.toNat 0).2.1 = (p : Nat)
  free : ∀ p, tx p = none → st p = []
  told : ∀ p t, tx p = some t → ((readV e (st p) 0).1.1, (readV e (st p) 0).1.2.1) = getP m t
  none_ : ∀ t, (∀ p, tx p ≠ some t) → getP m t = (false, ByteArray.empty)
theorem know_none (c : PCfg) (e : Int) : Know c (fun _ => none) (fun _ => []) e [] := ⟨fun p t h => (by cases h), fun _ _ => rfl, fun p t h => (by cases h), fun _ _ => rfl⟩
theorem Know.put {c : PCfg} {tx : Nat → Option ByteArray} {st : Nat → List PVersion} {e : Int} {m : List (ByteArray × ByteArray)} (h : Know c tx st e m) {key : ByteArray} {p : Nat} (h1 : (lookP key (plN c key) tx c.shelves.toNat 0).1 = 2) (h2 : (lookP key (plN c key) tx c.shelves.toNat 0).2.1 = p) (htp : tx p = none) :
    Know c (putT tx p key) st e m := by
  have hno : ∀ q, tx q ≠ some key := fun q hq => by have := (h.at_ q key hq).1; rw [h1] at this; cases this
  have he := put_ext htp key
  have hpp : putT tx p key p = some key := by unfold putT; rw [if_pos rfl]
  have hpo : ∀ q, q ≠ p → putT tx p key q = tx q := fun q hq => by unfold putT; rw [if_neg hq]
  obtain ⟨p', k1, _, _, k2⟩ := look_put (key := key) (pl := plN c key) (tx := tx) c.shelves.toNat 0 h1
  have hpe : p' = p := by rw [h2] at k1; omega
  subst hpe
  refine ⟨fun q t hq => ?_, fun q hq => ?_, fun q t hq => ?_, fun t ht => ?_⟩
  · by_cases hqp : q = p'
    · subst hqp
      rw [hpp] at hq
      injection hq with hq
      subst hq
      rw [k2]
      exact ⟨rfl, rfl⟩
    · rw [hpo q hqp] at hq
      have := h.at_ q t hq
      rw [look_ext he _ _ (by rw [this.1]; decide)]
      exact this
  · by_cases hqp : q = p'
    · subst hqp
      rw [hpp] at hq; cases hq
    · rw [hpo q hqp] at hq
      exact h.free q hq
  · by_cases hqp : q = p'
    · subst hqp
      rw [hpp] at hq
      injection hq with hq
      subst hq
      rw [h.free _ htp, h.none_ _ hno]
      rfl
    · rw [hpo q hqp] at hq
      exact h.told q t hq
  · exact h.none_ t fun q hq => ht q (he q t hq)
theorem Know.push {c : PCfg} {tx : Nat → Option ByteArray} {st : Nat → List PVersion} {e : Int} {m m' : List (ByteArray × ByteArray)} (h : Know c tx st e m) {key value : ByteArray} {p : Nat} (hp : tx p = some key) (bk ep : Int) (has : Bool)
    (hm : ∀ t, getP m' t = if t = key ∧ ep ≤ e then (has, if has then value else ByteArray.empty) else getP m t) : Know c tx (putS st p ⟨bk, ep, has, value⟩) e m' := by
  refine ⟨h.at_, fun q hq => ?_, fun q t hq => ?_, fun t ht => ?_⟩
  · unfold putS
    rw [if_neg (fun h => by rw [h, hp] at hq; cases hq)]
    exact h.free q hq
  · rw [hm]
    unfold putS
    by_cases hqp : q = p
    · subst hqp
      rw [hp] at hq
      injection hq with hq
      subst hq
      rw [if_pos rfl]
      unfold readV
      have ht := h.told q key hp
      by_cases hle : e < ep
      · rw [if_pos hle, if_neg (show ¬ (key = key ∧ ep ≤ e) from fun h => by omega)]
        simp only
        rw [readV_fst e (st q) (0 + 1) 0]
        exact ht
      · rw [if_neg hle, if_pos (show key = key ∧ ep ≤ e from ⟨rfl, by omega⟩)]
        cases has <;> rfl
    · have hne : t ≠ key := fun ht => by
        subst ht
        have a1 := (h.at_ q t hq).2
        have a2 := (h.at_ p t hp).2
        rw [a1] at a2
        omega
      rw [if_neg hqp, if_neg (show ¬ (t = key ∧ ep ≤ e) from fun h => hne h.1)]
      exact h.told q t hq
  · rw [hm, if_neg (show ¬ (t = key ∧ ep ≤ e) from fun h => ht p (by rw [h.1]; exact hp))]
    exact h.none_ t ht
end Go.Proofs.YtmlnhjfdhjachaaGreat
