import Derived.Test.YtmlnhjfdhjachaaGreatPinR
import Derived.Test.YtmlnhjfdhjachaaGreatAlone
import Derived.Test.YtmlnhjfdhjachaaGreatReadE
import Derived.Test.YtmlnhjfdhjachaaGreatHandP
import Derived.Test.YtmlnhjfdhjachaaGreatFindL
import Derived.Test.YtmlnhjfdhjachaaGreatChainP
/-
  Pinning alone (layer 25): the plain law. No condition.
-/
namespace Go.Proofs.YtmlnhjfdhjachaaGreat
set_option linter.unusedVariables false
open Go.ChangeShapes Go.WideShapes Go.ChangeAt Go.RowKit
open Go.ChangeMaps (setBlock)

/-- The pins' cells hold what a row says. -/
def PinsAt (S : PHeap) (x : Nat → Int) (n : Int) : Prop := ∀ j : Nat, (j : Int) < n → CtlAt S (3 + j) (x j)
def PinGot (c : PCfg) (S : PHeap) (x : Nat → Int) (e : Int) (first t : Int) (S' : PHeap) (s' : PPin) (n : Nat) : Prop :=
  ∃ (j : Nat) (i : Int), (t ≤ i ∧ i < c.pins ∧ (first + i) % c.pins = j ∧ ∀ i', t ≤ i' → i' < i → x ((first + i') % c.pins).toNat ≠ 0) ∧ (j : Int) < c.pins ∧ x j = 0 ∧ s'.part = 5 ∧ s'.taken = false ∧ s'.pin = j ∧ s'.epoch = e ∧ S' = S.set 1 (3 + j) (IntKind.u64.wrap (e + 1)) ∧ (n : Int) = i - t + 2
def PinNone (c : PCfg) (S : PHeap) (x : Nat → Int) (first t : Int) (S' : PHeap) (s' : PPin) (n : Nat) : Prop :=
  (∀ i, t ≤ i → i < c.pins → x ((first + i) % c.pins).toNat ≠ 0) ∧ s'.part = 5 ∧ s'.taken = true ∧ S' = S ∧ (n : Int) = c.pins - t
theorem runs_stop {c : PCfg} {S S' : PHeap} {s s' : PPin} {xs : List (PAct × PGot)} (hi : PinInv c s) (hp : s.part = 5) (h : Runs (pinRout c) S s xs S' s') : xs = [] ∧ S' = S ∧ s' = s := by
  match xs, h with
  | [], h => exact ⟨rfl, h.1.symm, h.2.symm⟩
  | y :: l, h =>
    obtain ⟨h1, _⟩ := h
    rw [can_pin hi, hp] at h1
    cases h1
theorem pin_tries {c : PCfg} {S : PHeap} {x : Nat → Int} {e : Int} (he : CtlAt S 0 e) (hx : PinsAt S x c.pins) : ∀ (d : Nat) (s : PPin) {S' : PHeap} {s' : PPin} {xs : List (PAct × PGot)} {m : Int}, PinInv c s → s.part = 2 → s.taken = false → s.epoch = e → (d : Int) = c.pins - s.tried →
    Runs (pinRout c) S s xs S' s' → (m ≤ (xs.length : Nat) ∨ (pinRout c).can S' s' = false) → (d : Int) + 2 ≤ m → PinGot c S x e s.first s.tried S' s' xs.length ∨ PinNone c S x s.first s.tried S' s' xs.length
  | 0, s, S', s', xs, m, hi, hp, htk, hep, hd, h, hst, hm => by have := hi.two (.inl hp); omega
  | d + 1, s, S', s', xs, m, hi, hp, htk, hep, hd, h, hst, hm => by
    have hat := hi.at_ok
    obtain ⟨k, hk⟩ : ∃ k : Nat, s.at_ = k := ⟨s.at_.toNat, by omega⟩
    have hat2 : (s.first + s.tried) % c.pins = k := by rw [← hk, ← hi.cfg]; rfl
    have ha := PPin.act2 hp k hk
    have hC := hx k (by omega)
    match xs, h with
    | [], h =>
      obtain ⟨rfl, rfl⟩ := h
      rcases hst with h1 | h1
      · simp at h1; omega
      · rw [can_pin hi, hp] at h1; cases h1
    | y :: l, h =>
      obtain ⟨_, r, _, h⟩ := h
      have hsw : S.act ((pinRout c).act s).1 r = (⟨x k, ByteArray.empty⟩, if x k = 0 then S.set 1 (3 + k) (IntKind.u64.wrap (s.epoch + 1)) else S) := by
        show S.act (PPin.act s).1 r = _
        rw [ha]
        exact hC.swap 0 _ r
      rw [hsw] at h
      have hi2 := hi.take ⟨x k, ByteArray.empty⟩
      by_cases hx0 : x k = 0
      · rw [if_pos hx0] at h
        have hT : (pinRout c).take s ⟨x k, ByteArray.empty⟩ = { s with part := 3 } := PPin.take2a hp _ hx0
        rw [hT] at h
        rw [show s.take ⟨x k, ByteArray.empty⟩ = { s with part := 3 } from hT] at hi2
        have he2 : CtlAt (S.set 1 (3 + k) (IntKind.u64.wrap (s.epoch + 1))) 0 e := he.other _ (by omega)
        have ha3 : PPin.act { s with part := 3 } = (⟨1, 1, ((0 : Nat) : Int), 0, 0, ByteArray.empty⟩, true) := PPin.act1 (.inr rfl)
        match l, h with
        | [], h =>
          obtain ⟨rfl, rfl⟩ := h
          rcases hst with h1 | h1
          · simp at h1; omega
          · rw [can_pin hi2] at h1; cases h1
        | z :: l, h =>
          obtain ⟨_, r2, _, h⟩ := h
          have hld : (S.set 1 (3 + k) (IntKind.u64.wrap (s.epoch + 1))).act ((pinRout c).act { s with part := 3 }).1 r2 = (⟨e, ByteArray.empty⟩, S.set 1 (3 + k) (IntKind.u64.wrap (s.epoch + 1))) := by
            show PHeap.act _ (PPin.act { s with part := 3 }).1 r2 = _
            rw [ha3]
            exact he2.load r2
          rw [hld] at h
          have hT3 : (pinRout c).take { s with part := 3 } ⟨e, ByteArray.empty⟩ = { s with pin := s.at_, part := 5 } := PPin.take3a (s := { s with part := 3 }) rfl ⟨e, ByteArray.empty⟩ hep.symm
          rw [hT3] at h
          have hi3 := hi2.take ⟨e, ByteArray.empty⟩
          rw [show PPin.take { s with part := 3 } ⟨e, ByteArray.empty⟩ = { s with pin := s.at_, part := 5 } from hT3] at hi3
          obtain ⟨rfl, rfl, rfl⟩ := runs_stop hi3 rfl h
          left
          have h2 := hi.two (.inl hp)
          refine ⟨k, s.tried, ⟨Int.le_refl _, h2, hat2, fun i' g1 g2 => by omega⟩, by omega, hx0, rfl, htk, hk, hep, by rw [hep], ?_⟩
          show ((2 : Nat) : Int) = _
          omega
      · rw [if_neg hx0] at h
        by_cases ht : s.tried + 1 = s.cfg.pins
        · have hT : (pinRout c).take s ⟨x k, ByteArray.empty⟩ = { s with tried := s.tried + 1, pin := 0, epoch := 0, taken := true, part := 5 } := PPin.take2b hp _ hx0 ht
          rw [hT] at h
          rw [show s.take ⟨x k, ByteArray.empty⟩ = { s with tried := s.tried + 1, pin := 0, epoch := 0, taken := true, part := 5 } from hT] at hi2
          obtain ⟨rfl, rfl, rfl⟩ := runs_stop hi2 rfl h
          rw [hi.cfg] at ht
          right
          refine ⟨fun i h1 h2 => ?_, rfl, rfl, rfl, ?_⟩
          · have : i = s.tried := by omega
            rw [this, hat2]
            exact hx0
          · show ((1 : Nat) : Int) = _
            omega
        · have hT : (pinRout c).take s ⟨x k, ByteArray.empty⟩ = { s with tried := s.tried + 1 } := PPin.take2c hp _ hx0 ht
          rw [hT] at h
          rw [show s.take ⟨x k, ByteArray.empty⟩ = { s with tried := s.tried + 1 } from hT] at hi2
          have hst2 : m - 1 ≤ (l.length : Nat) ∨ (pinRout c).can S' s' = false := by
            rcases hst with h1 | h1
            · left; simp only [List.length_cons] at h1; omega
            · exact .inr h1
          have := pin_tries he hx d { s with tried := s.tried + 1 } hi2 hp htk hep (by show (d : Int) = c.pins - (s.tried + 1); omega) h hst2 (by omega)
          rcases this with ⟨j, i, ⟨i1, i2, i3, i4⟩, j1, j2, j3, j4, j5, j6, j7, j8⟩ | ⟨j1, j2, j3, j4, j5⟩
          · left
            have i1' : s.tried + 1 ≤ i := i1
            refine ⟨j, i, ⟨by omega, i2, i3, fun i' g1 g2 => ?_⟩, j1, j2, j3, j4, j5, j6, j7, ?_⟩
            · by_cases hi0 : i' = s.tried
              · rw [hi0, hat2]
                exact hx0
              · exact i4 i' (by show s.tried + 1 ≤ i'; omega) g2
            · simp only [List.length_cons]
              have : (l.length : Int) = i - (s.tried + 1) + 2 := j8
              omega
          · right
            refine ⟨fun i h1 h2 => ?_, j2, j3, j4, ?_⟩
            · by_cases hi0 : i = s.tried
              · rw [hi0, hat2]
                exact hx0
              · exact j1 i (by show s.tried + 1 ≤ i; omega) h2
            · simp only [List.length_cons]
              have : (l.length : Int) = c.pins - (s.tried + 1) := j5
              omega
/-- A thread that pins alone. -/
theorem pin_alone {c : PCfg} {S S' : PHeap} {x : Nat → Int} {e th m : Int} {s' : PPin} {xs : List (PAct × PGot)} (hc : c.Right) (hth : 0 ≤ th) (he : CtlAt S 0 e) (hx : PinsAt S x c.pins) (h : Runs (pinRout c) S (newPin c th) xs S' s')
    (hst : m ≤ (xs.length : Nat) ∨ (pinRout c).can S' s' = false) (hm : c.pins + 3 ≤ m) :
    (∃ (j : Nat) (i : Int), (0 ≤ i ∧ i < c.pins ∧ (th % c.pins + i) % c.pins = j ∧ ∀ i', 0 ≤ i' → i' < i → x ((th % c.pins + i') % c.pins).toNat ≠ 0) ∧ (j : Int) < c.pins ∧ x j = 0 ∧ s'.part = 5 ∧ s'.taken = false ∧ s'.pin = j ∧ s'.epoch = e ∧ S' = S.set 1 (3 + j) (IntKind.u64.wrap (e + 1)) ∧ (xs.length : Int) = i + 3) ∨
    ((∀ j : Nat, (j : Int) < c.pins → x j ≠ 0) ∧ s'.part = 5 ∧ s'.taken = true ∧ S' = S ∧ (xs.length : Int) = c.pins + 1) := by
  have hi := newPin_inv c hc th hth
  have hp := hc.pins
  match xs, h with
  | [], h =>
    obtain ⟨rfl, rfl⟩ := h
    rcases hst with h1 | h1
    · simp at h1; omega
    · rw [can_pin hi] at h1; cases h1
  | y :: l, h =>
    obtain ⟨_, r, _, h⟩ := h
    have ha : PPin.act (newPin c th) = (⟨1, 1, ((0 : Nat) : Int), 0, 0, ByteArray.empty⟩, true) := PPin.act1 (.inl rfl)
    have hld : S.act ((pinRout c).act (newPin c th)).1 r = (⟨e, ByteArray.empty⟩, S) := by
      show PHeap.act _ (PPin.act (newPin c th)).1 r = _
      rw [ha]
      exact he.load r
    rw [hld] at h
    have hT : (pinRout c).take (newPin c th) ⟨e, ByteArray.empty⟩ = { newPin c th with epoch := e, part := 2 } := PPin.take1 (s := newPin c th) rfl ⟨e, ByteArray.empty⟩
    rw [hT] at h
    have hi2 := hi.take ⟨e, ByteArray.empty⟩
    rw [show PPin.take (newPin c th) ⟨e, ByteArray.empty⟩ = { newPin c th with epoch := e, part := 2 } from hT] at hi2
    have hst2 : m - 1 ≤ (l.length : Nat) ∨ (pinRout c).can S' s' = false := by
      rcases hst with h1 | h1
      · left; simp only [List.length_cons] at h1; omega
      · exact .inr h1
    have := pin_tries he hx c.pins.toNat { newPin c th with epoch := e, part := 2 } hi2 rfl rfl rfl (by show ((c.pins.toNat : Nat) : Int) = c.pins - 0; omega) h hst2 (by omega)
    rcases this with ⟨j, i, i0, j1, j2, j3, j4, j5, j6, j7, j8⟩ | ⟨j1, j2, j3, j4, j5⟩
    · left
      refine ⟨j, i, i0, j1, j2, j3, j4, j5, j6, j7, ?_⟩
      simp only [List.length_cons]
      have : (l.length : Int) = i - 0 + 2 := j8
      omega
    · right
      refine ⟨fun j hj => ?_, j2, j3, j4, ?_⟩
      · have hf := hi2.first
        have hfe : PPin.first { newPin c th with epoch := e, part := 2 } = th % c.pins := rfl
        rw [hfe] at hf
        have k1 := Int.emod_nonneg ((j : Int) - th % c.pins) (b := c.pins) (by omega)
        have k2 := Int.emod_lt_of_pos ((j : Int) - th % c.pins) (b := c.pins) (by omega)
        have := j1 (((j : Int) - th % c.pins) % c.pins) k1 k2
        rw [hfe] at this
        have e1 : (th % c.pins + ((j : Int) - th % c.pins) % c.pins) % c.pins = j := by
          rw [Int.add_emod_emod, show th % c.pins + ((j : Int) - th % c.pins) = (j : Int) by omega]
          exact Int.emod_eq_of_lt (by omega) hj
        rw [e1] at this
        exact this
      · simp only [List.length_cons]
        have : (l.length : Int) = c.pins - 0 := j5
        omega
end Go.Proofs.YtmlnhjfdhjachaaGreat

/-
  Reading alone (layer 26): the plain law. No condition.
-/
namespace Go.Proofs.YtmlnhjfdhjachaaGreat
set_option linter.unusedVariables false
open Go.ChangeShapes Go.WideShapes Go.ChangeAt Go.RowKit
open Go.ChangeMaps (setBlock)

/-- A run of a routine within another one, and what comes behind it. -/
theorem runs_split {σ τ : Type} {Rt : Rout σ} {RC : Rout τ} {emb : Nat → σ → τ} (W : Within Rt.act Rt.take RC.act RC.take emb) : ∀ (xs : List (PAct × PGot)) (k : Nat) (s : σ) {S S' : PHeap} {c' : τ}, Runs RC S (emb k s) xs S' c' →
    ∃ xs1 xs2 S1 s1, xs = xs1 ++ xs2 ∧ Runs Rt S s xs1 S1 s1 ∧ Runs RC S1 (emb (k + xs1.length) s1) xs2 S' c' ∧ (xs2 = [] ∨ (Rt.act s1).2 = false)
  | [], k, s, S, S', c', h => ⟨[], [], S, s, rfl, ⟨rfl, rfl⟩, h, .inl rfl⟩
  | x :: xs, k, s, S, S', c', h => by
    cases ha : (Rt.act s).2 with
    | false => exact ⟨[], x :: xs, S, s, rfl, ⟨rfl, rfl⟩, h, .inr ha⟩
    | true =>
      obtain ⟨h1, r, hx, h2⟩ := h
      have e := W.hact k s ha
      have hcan : Rt.can S s = true := by
        unfold Rout.can at h1 ⊢
        rw [e] at h1
        exact h1
      rw [e] at hx h2
      rw [W.htake k s _ ha] at h2
      obtain ⟨xs1, xs2, S1, s1, e1, r1, r2, st⟩ := runs_split W xs (k + 1) _ h2
      refine ⟨x :: xs1, xs2, S1, s1, by rw [e1]; rfl, ⟨hcan, r, hx, r1⟩, ?_, st⟩
      rw [show k + (x :: xs1).length = k + 1 + xs1.length by simp; omega]
      exact r2
/-- The inner run stops where the outer one does, or where it is done. -/
theorem split_stop {σ τ : Type} {Rt : Rout σ} {RC : Rout τ} {emb : Nat → σ → τ} (W : Within Rt.act Rt.take RC.act RC.take emb) {xs1 xs2 : List (PAct × PGot)} {k : Nat} {S1 S' : PHeap} {s1 : σ} {c' : τ} {m : Int} (h : Runs RC S1 (emb k s1) xs2 S' c') (hd : xs2 = [] ∨ (Rt.act s1).2 = false) (hst : m ≤ ((xs1 ++ xs2).length : Nat) ∨ RC.can S' c' = false) :
    m ≤ (xs1.length : Nat) ∨ Rt.can S1 s1 = false := by
  cases ha : (Rt.act s1).2 with
  | false => exact .inr (by unfold Rout.can; rw [ha]; rfl)
  | true =>
    rcases hd with rfl | hd
    · obtain ⟨rfl, rfl⟩ := h
      rcases hst with h1 | h1
      · exact .inl (by simpa using h1)
      · right
        unfold Rout.can at h1 ⊢
        rwa [W.hact k s1 ha] at h1
    · rw [ha] at hd; cases hd
theorem rest_stop {xs1 xs2 : List (PAct × PGot)} {m : Int} {p : Prop} (h : m ≤ ((xs1 ++ xs2).length : Nat) ∨ p) : m - xs1.length ≤ (xs2.length : Nat) ∨ p := h.imp (fun e => by rw [List.length_append] at e; omega) id
/-- What lies in a field: the keys on their shelves, each shelf's versions, the pins, the epoch. -/
structure Laid (S : PHeap) (c : PCfg) (tx : Nat → Option ByteArray) (st : Nat → List PVersion) (pn : Nat → Int) (e : Int) : Prop where
  shelved : Shelved S c tx
  stack : ∀ j : Nat, (j : Int) < c.shelves → ∃ x, CtlAt S (kcell c j + 1) x ∧ Chained S x (st j) ∧ (0 ≤ x ∧ x ≤ 18446744073709551615)
  pins : PinsAt S pn c.pins
  epoch : CtlAt S 0 e
  faults : S.faults = 0
theorem set_keys {S : PHeap} {b : Int} {i : Nat} {v : Int} (h : ∀ x ∈ S.blocks, x.key ≤ S.last) : ∀ x ∈ (S.set b i v).blocks, x.key ≤ (S.set b i v).last := fun x hx => by
  obtain ⟨y, hy, rfl⟩ := List.mem_map.1 hx
  have := h y hy
  show (if y.key = b then ({ y with cells := y.cells.set i v } : PBlk) else y).key ≤ S.last
  split <;> exact this
/-- A cell of the control block's head turns: the shelves stay. -/
theorem Laid.head {S : PHeap} {c : PCfg} {tx : Nat → Option ByteArray} {st : Nat → List PVersion} {pn : Nat → Int} {e : Int} (h : Laid S c tx st pn e) (hc : c.Right) (i : Nat) (v : Int) (hi : (i : Int) < 3 + c.pins) :
    Shelved (S.set 1 i v) c tx ∧ (∀ j : Nat, (j : Int) < c.shelves → ∃ x, CtlAt (S.set 1 i v) (kcell c j + 1) x ∧ Chained (S.set 1 i v) x (st j) ∧ (0 ≤ x ∧ x ≤ 18446744073709551615)) := by
  have hold : ∀ k x, 2 ≤ k → S.find k = some x → (S.set 1 i v).find k = some x := fun k x h2 hx => by rw [find_other _ _ _ _ _ (by omega)]; exact hx
  have hcap := hc.cap
  refine ⟨⟨fun j hj => ?_, set_keys h.shelved.keys, h.shelved.one⟩, fun j hj => ?_⟩
  · obtain ⟨x, h1, h2, h3⟩ := h.shelved.at_ j hj
    have hk := kcell_eq hc j
    refine ⟨x, h1.other v (by omega), h2, fun t ht => ?_⟩
    obtain ⟨h4, b, h5, h6⟩ := h3 t ht
    exact ⟨h4, b, hold _ _ h4 h5, h6⟩
  · obtain ⟨x, h1, h2, h3⟩ := h.stack j hj
    have hk := kcell_eq hc j
    exact ⟨x, h1.other v (by omega), Chained.mono hold h2, h3⟩
theorem Laid.pin {S : PHeap} {c : PCfg} {tx : Nat → Option ByteArray} {st : Nat → List PVersion} {pn : Nat → Int} {e : Int} (h : Laid S c tx st pn e) (hc : c.Right) (k : Nat) (hk : (k : Int) < c.pins) (v : Int) : Laid (S.set 1 (3 + k) v) c tx st (fun j => if j = k then v else pn j) e := by
  obtain ⟨h1, h2⟩ := h.head hc (3 + k) v (by omega)
  refine ⟨h1, h2, fun j hj => ?_, h.epoch.other v (by omega), h.faults⟩
  by_cases hjk : j = k
  · subst hjk
    simp only [if_true]
    exact (h.pins j hj).same v
  · simp only [hjk, if_false]
    exact (h.pins j hj).other v (by omega)
theorem Laid.at_epoch {S : PHeap} {c : PCfg} {tx : Nat → Option ByteArray} {st : Nat → List PVersion} {pn : Nat → Int} {e : Int} (h : Laid S c tx st pn e) (hc : c.Right) (v : Int) : Laid (S.set 1 0 v) c tx st pn v := by
  have hp := hc.pins
  obtain ⟨h1, h2⟩ := h.head hc 0 v (by omega)
  exact ⟨h1, h2, fun j hj => (h.pins j hj).other v (by omega), h.epoch.same v, h.faults⟩
theorem Laid.alike {S : PHeap} {c : PCfg} {tx : Nat → Option ByteArray} {st : Nat → List PVersion} {pn pn' : Nat → Int} {e : Int} (h : Laid S c tx st pn e) (hp : ∀ j : Nat, (j : Int) < c.pins → pn j = pn' j) : Laid S c tx st pn' e :=
  ⟨h.shelved, h.stack, fun j hj => by rw [← hp j hj]; exact h.pins j hj, h.epoch, h.faults⟩
/-- What a read of a key tells; in how many acts it is found out. -/
def ansP (c : PCfg) (key : ByteArray) (tx : Nat → Option ByteArray) (st : Nat → List PVersion) (e : Int) : (Bool × ByteArray) × Nat :=
  let L := lookP key (plN c key) tx c.shelves.toNat 0
  if L.1 = 1 then (((readV e (st L.2.1.toNat) 0).1.1, (readV e (st L.2.1.toNat) 0).1.2.1), L.2.2 + ((readV e (st L.2.1.toNat) 0).2.2 + 1)) else ((false, ByteArray.empty), L.2.2)
theorem look_len {key : ByteArray} {pl : Nat → Nat} {tx : Nat → Option ByteArray} : ∀ (d k : Nat), (lookP key pl tx d k).2.2 ≤ 2 * d
  | 0, _ => Nat.zero_le _
  | d + 1, k => by
    have := look_len (key := key) (pl := pl) (tx := tx) d (k + 1)
    unfold lookP
    split
    · simp; omega
    · split
      · simp; omega
      · simp; omega
theorem read_alone {S S' : PHeap} {s' : PRead} {xs : List (PAct × PGot)} {m th e : Int} {c : PCfg} {key : ByteArray} {tx : Nat → Option ByteArray} {st : Nat → List PVersion} {pn : Nat → Int} (hc : c.Right) (hth : 0 ≤ th) (hL : Laid S c tx st pn e) (hfree : ∀ j : Nat, (j : Int) < c.pins → pn j = 0) (L : Nat) (hL100 : L ≤ 100) (hlen : ∀ j, (st j).length ≤ L)
    (h : Runs readRout S (newRead c th key) xs S' s') (hst : m ≤ (xs.length : Nat) ∨ readRout.can S' s' = false) (hm : 4 * c.shelves + 2 * (L : Int) + 20 ≤ m) :
    s'.part = 5 ∧ s'.code = 0 ∧ s'.took = (ansP c key tx st e).1.1 ∧ s'.value = (ansP c key tx st e).1.2 ∧ s'.mark = 3 ∧ Laid S' c tx st pn e ∧ S'.last = S.last ∧ xs.length = 4 + (ansP c key tx st e).2 := by
  have hp := hc.pins
  have hsh := hc.shelves
  rw [newRead_rd c hc] at h
  -- the pin
  have W1 : Within (pinRout c).act (pinRout c).take readRout.act readRout.take (fun k s => (rd1 c key k s).settle1) := within1 c key
  obtain ⟨x1, x2, S1, s1, rfl, r1, r2, d1⟩ := runs_split W1 xs 0 (newPin c th) h
  have st1 := split_stop W1 r2 d1 hst
  have g1 := pin_alone hc hth hL.epoch hL.pins r1 st1 (by omega)
  have hff : pn (th % c.pins).toNat = 0 := hfree _ (by have := Int.emod_nonneg th (b := c.pins) (by omega); have := Int.emod_lt_of_pos th (b := c.pins) (by omega); omega)
  obtain ⟨j, hj, hp5, htk, hpi, hep, hS1, hl1⟩ : ∃ j : Nat, (j : Int) < c.pins ∧ s1.part = 5 ∧ s1.taken = false ∧ s1.pin = j ∧ s1.epoch = e ∧ S1 = S.set 1 (3 + j) (IntKind.u64.wrap (e + 1)) ∧ x1.length = 3 := by
    rcases g1 with ⟨j, i, ⟨i1, i2, i3, i4⟩, j1, j2, j3, j4, j5, j6, j7, j8⟩ | ⟨j1, _⟩
    · have hi0 : i = 0 := by
        rcases Int.lt_or_eq_of_le i1 with h | h
        · exact absurd (by rw [Int.add_zero, Int.emod_emod_of_dvd _ (Int.dvd_refl _)]; exact hff) (i4 0 (Int.le_refl _) h)
        · exact h.symm
      exact ⟨j, j1, j3, j4, j5, j6, j7, by omega⟩
    · exact absurd (hfree 0 (by omega)) (j1 0 (by omega))
  have hst2 := rest_stop hst
  have e2 : (rd1 c key (0 + x1.length) s1).settle1 = (rd2 c key s1 3 3 (newFind c key)).settle2 := by
    rw [hl1]
    simp [PRead.settle1, rd1, hp5, htk, rd2, PRead.settle2, newFind]
  rw [e2] at r2
  have hL1 : Laid S1 c tx st (fun i => if i = j then IntKind.u64.wrap (e + 1) else pn i) e := by rw [hS1]; exact hL.pin hc j hj _
  -- the key
  have W2 : Within findRout.act findRout.take readRout.act readRout.take (fun k f => (rd2 c key s1 3 k f).settle2) := within2 c key s1 3
  obtain ⟨y1, y2, S2, f, rfl, q1, q2, d2⟩ := runs_split W2 x2 3 (newFind c key) r2
  have st2 := split_stop W2 q2 d2 hst2
  obtain ⟨hn, hS2, hfa, hfr⟩ := find_alone hc hL1.shelved q1 st2 (by omega)
  have hll := look_len (key := key) (pl := plN c key) (tx := tx) c.shelves.toNat 0
  have hst3 := rest_stop hst2
  have hy1 : (y1.length : Int) ≤ 2 * c.shelves := by omega
  -- what is done behind it: the pin is freed
  have hfin : ∀ (zs : List (PAct × PGot)) (Z Z' : PHeap) (k : Nat) (ff : PFind) (xx : PChain) (took : Bool) (value : ByteArray) (mm : Int), Z = S1 → Runs readRout Z (rd4 c key s1 3 ff k xx took value) zs Z' s' → (mm ≤ (zs.length : Nat) ∨ readRout.can Z' s' = false) → 2 ≤ mm →
      s'.part = 5 ∧ s'.code = 0 ∧ s'.took = took ∧ s'.value = value ∧ s'.mark = 3 ∧ Laid Z' c tx st pn e ∧ Z'.last = S.last ∧ zs.length = 1 := by
    intro zs Z Z' k ff xx took value mm hZ hr hs hmm
    have a4 : readRout.act (rd4 c key s1 3 ff k xx took value) = (⟨2, 1, ((3 + j : Nat) : Int), 0, 0, ByteArray.empty⟩, true) := by
      have ha : PRead.act (rd4 c key s1 3 ff k xx took value) = (⟨2, 1, 3 + s1.pin, 0, 0, ByteArray.empty⟩, true) := rfl
      rw [hpi, show (3 : Int) + (j : Int) = ((3 + j : Nat) : Int) by omega] at ha
      exact ha
    obtain ⟨r, l, rfl, hr2, hs2⟩ := run_one a4 (ready_store _ _ _) hr hs (by omega)
    have hat : CtlAt Z (3 + j) (IntKind.u64.wrap (e + 1)) := by
      rw [hZ]
      have := hL1.pins j hj
      simpa using this
    rw [hat.store 0 r] at hr2
    obtain ⟨rfl, rfl, rfl⟩ := run_end (Rt := readRout) rfl hr2
    refine ⟨rfl, rfl, rfl, rfl, rfl, ?_, by rw [hZ, hS1]; rfl, rfl⟩
    rw [hZ]
    refine (hL1.pin hc j hj 0).alike fun i hi => ?_
    by_cases hij : i = j
    · rw [if_pos hij, hij]; exact (hfree j hj).symm
    · rw [if_neg hij, if_neg hij]
  have hkd : f.kind = (lookP key (plN c key) tx c.shelves.toNat 0).1 ∧ (f.kind ≠ 0 → f.shelf = (lookP key (plN c key) tx c.shelves.toNat 0).2.1) ∧ f.kind ≠ 0 := by
    unfold PFind.result at hfr
    by_cases hk0 : f.kind = 0
    · rw [if_pos hk0] at hfr
      injection hfr with _ h2
      cases h2
    · rw [if_neg hk0] at hfr
      injection hfr with h2 _
      injection h2 with h2 h3
      exact ⟨h2, fun _ => h3, hk0⟩
  obtain ⟨hk1, hk2, hk0⟩ := hkd
  have hk2 := hk2 hk0
  by_cases hone : f.kind = 1
  · -- the chain
    have hkind := look_kind (key := key) (pl := plN c key) (tx := tx) c.shelves.toNat 0
    obtain ⟨p, hpp, _, i, hpi2⟩ : ∃ p : Nat, (lookP key (plN c key) tx c.shelves.toNat 0).2.1 = p ∧ tx p = some key ∧ ∃ i, p = plN c key i := by
      rcases hkind with ⟨_, h2⟩ | h2 | ⟨h2, _⟩
      · exact h2
      · rw [← hk1, hone] at h2; cases h2
      · rw [← hk1, hone] at h2; cases h2
    have hps : (p : Int) < c.shelves := by rw [hpi2]; exact (plN_eq hc key i).2
    have hcell : 3 + c.pins + c.cap + 2 * f.shelf + 1 = ((kcell c p + 1 : Nat) : Int) := by
      have := kcell_eq hc p
      rw [hk2, hpp]
      omega
    have e3 : (rd2 c key s1 3 (3 + y1.length) f).settle2 = (rd3 c key s1 3 f (3 + y1.length) (newChain ((kcell c p + 1 : Nat) : Int) e)).settle3 := by
      rw [← hcell]
      simp [PRead.settle2, rd2, hone, rd3, PRead.settle3, newChain, hep]
    rw [e3] at q2
    have W3 : Within chainRout.act chainRout.take readRout.act readRout.take (fun k x => (rd3 c key s1 3 f k x).settle3) := within3 c key s1 3 f
    obtain ⟨z1, z2, S3, x, rfl, t1, t2, d3⟩ := runs_split W3 y2 (3 + y1.length) _ q2
    have st3 := split_stop W3 t2 d3 hst3
    obtain ⟨v, hv1, hv2, hv3⟩ := hL1.stack p hps
    rw [hS2] at t1
    have hlp := hlen p
    obtain ⟨hn3, hS3, hx6, hxr, _⟩ := chain_alone hv1 hv2 (by omega) t1 st3 (by clear hk1 hk2 hone hk0 hkind; omega)
    have hrl := readV_le e (st p) 0
    have hst4 := rest_stop hst3
    have hxv : x.has = (readV e (st p) 0).1.1 ∧ x.text = (readV e (st p) 0).1.2.1 := by
      unfold PChain.result at hxr
      rw [if_pos hx6] at hxr
      injection hxr with h2 _
      exact ⟨congrArg (·.1) h2, congrArg (·.2.1) h2⟩
    have e4 : (rd3 c key s1 3 f (3 + y1.length + z1.length) x).settle3 = rd4 c key s1 3 f (3 + y1.length + z1.length) x x.has x.text := by
      simp [PRead.settle3, rd3, hx6, rd4]
    rw [e4] at t2
    obtain ⟨k1, k2, k3, k4, k5, k6, k7, k8⟩ := hfin z2 S3 S' _ f x x.has x.text _ hS3 t2 hst4 (by clear hk1 hk2 hone hk0 hkind; simp only at hn3; omega)
    have hans : ansP c key tx st e = (((readV e (st p) 0).1.1, (readV e (st p) 0).1.2.1), (lookP key (plN c key) tx c.shelves.toNat 0).2.2 + ((readV e (st p) 0).2.2 + 1)) := by
      unfold ansP
      simp only
      rw [if_pos (by rw [← hk1]; exact hone), hpp]
      rfl
    rw [hans]
    refine ⟨k1, k2, by rw [k3, hxv.1], by rw [k4, hxv.2], k5, k6, k7, ?_⟩
    simp only [List.length_append]
    clear hk1 hk2 hone hk0 hkind
    simp only at hn3
    omega
  · have e3 : (rd2 c key s1 3 (3 + y1.length) f).settle2 = rd4 c key s1 3 f (3 + y1.length) (newChain 0 0) false ByteArray.empty := by
      simp [PRead.settle2, rd2, hone, hk0, rd4]
    rw [e3] at q2
    obtain ⟨k1, k2, k3, k4, k5, k6, k7, k8⟩ := hfin y2 S2 S' _ f (newChain 0 0) false ByteArray.empty _ hS2 q2 hst3 (by clear hk1 hk2 hone hk0; omega)
    have hans : ansP c key tx st e = ((false, ByteArray.empty), (lookP key (plN c key) tx c.shelves.toNat 0).2.2) := by
      unfold ansP
      simp only
      rw [if_neg (by rw [← hk1]; exact hone)]
    rw [hans]
    refine ⟨k1, k2, k3, k4, k5, k6, k7, ?_⟩
    simp only [List.length_append]
    clear hk1 hk2 hone hk0
    omega
end Go.Proofs.YtmlnhjfdhjachaaGreat
