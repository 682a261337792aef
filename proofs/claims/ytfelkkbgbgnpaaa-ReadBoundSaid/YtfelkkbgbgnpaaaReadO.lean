/-
  Reading while the epoch goes on (layer 26): the plain law. No condition.
-/
import Derived.Test.YtfelkkbgbgnpaaaLay
namespace Go.Proofs.Ytfelkkbgbgnpaaa
set_option linter.unusedVariables false

/-- Versions whose epochs fall by one, down to the first one. -/
def Fall : Int → List PVersion → Prop
  | f, [] => f = -1
  | f, v :: l => v.epoch = f ∧ Fall (f - 1) l
theorem Fall.len : ∀ {f : Int} {l : List PVersion}, Fall f l → (l.length : Int) = f + 1
  | f, [], h => by
    have h1 : f = -1 := h
    rw [h1]; rfl
  | f, v :: l, h => by
    have := Fall.len h.2
    simp only [List.length_cons]
    omega
/-- A field in which one key lies, at its first place, with a version of each epoch. -/
structure One (c : PCfg) (key : ByteArray) (p : Nat) (S : PHeap) (E : Int) (pn : Nat → Int) : Prop where
  ex : ∃ tx st, Laid S c tx st pn E ∧ tx p = some key ∧ Fall E (st p)
  place : plN c key 0 = p
  zero : 0 ≤ E
/-- Where a read of that key is, and how many acts it takes from there if the epoch stays. -/
inductive Stage (c : PCfg) (key : ByteArray) (p : Nat) (S : PHeap) (E : Int) (pn : Nat → Int) : PRead → Int → Prop
  | p1 {a e : Int} {f : PFind} {x : PChain} {m : Int} : pn 0 = 0 → Stage c key p S E pn ⟨c, key, 1, a, ⟨c, 0, 0, 1, 0, e, false⟩, 0, 0, false, f, x, 0, false, ByteArray.empty, m⟩ 10
  | p2 {a e : Int} {f : PFind} {x : PChain} {m : Int} : pn 0 = 0 → 0 ≤ e → e ≤ E → Stage c key p S E pn ⟨c, key, 1, a, ⟨c, 0, 0, 2, 0, e, false⟩, 0, 0, false, f, x, 0, false, ByteArray.empty, m⟩ (9 + 2 * (E - e))
  | p3 {a e : Int} {f : PFind} {x : PChain} {m : Int} : 0 ≤ e → e ≤ E → Stage c key p S E pn ⟨c, key, 1, a, ⟨c, 0, 0, 3, 0, e, false⟩, 0, 0, false, f, x, 0, false, ByteArray.empty, m⟩ (8 + 2 * (E - e))
  | p4 {a e : Int} {f : PFind} {x : PChain} {m : Int} : 0 ≤ e → e ≤ E → Stage c key p S E pn ⟨c, key, 1, a, ⟨c, 0, 0, 4, 0, e, false⟩, 0, 0, false, f, x, 0, false, ByteArray.empty, m⟩ (9 + 2 * (E - e))
  | f0 {a e : Int} {s : PPin} {x : PChain} {m : Int} : 0 ≤ e → e ≤ E → Stage c key p S E pn ⟨c, key, 2, a, s, 0, e, false, newFind c key, x, 0, false, ByteArray.empty, m⟩ (7 + 2 * (E - e))
  | f1 {a e b : Int} {s : PPin} {x : PChain} {m : Int} : 0 ≤ e → e ≤ E → 2 ≤ b → (∃ y, S.find b = some y ∧ y.text = key) → Stage c key p S E pn ⟨c, key, 2, a, s, 0, e, false, ⟨c, key, sumP c.seed key, 0, b, 0, 0, c.right⟩, x, 0, false, ByteArray.empty, m⟩ (6 + 2 * (E - e))
  | c1 {a e : Int} {s : PPin} {f : PFind} {m : Int} : 0 ≤ e → e ≤ E → Stage c key p S E pn ⟨c, key, 3, a, s, 0, e, false, f, newChain ((kcell c p + 1 : Nat) : Int) e, 0, false, ByteArray.empty, m⟩ (5 + 2 * (E - e))
  | c2 {a e g b q cl : Int} {l : List PVersion} {s : PPin} {f : PFind} {m : Int} : 0 ≤ e → e ≤ g → Fall g l → Chained S b l → Stage c key p S E pn ⟨c, key, 3, a, s, 0, e, false, f, ⟨cl, e, b, 2, false, ByteArray.empty, 0, q⟩, 0, false, ByteArray.empty, m⟩ (4 + 2 * (g - e))
  | c3 {a e g b q cl : Int} {l : List PVersion} {s : PPin} {f : PFind} {m : Int} : 0 ≤ e → e < g → Fall g l → Chained S b l → Stage c key p S E pn ⟨c, key, 3, a, s, 0, e, false, f, ⟨cl, e, b, 3, false, ByteArray.empty, 0, q⟩, 0, false, ByteArray.empty, m⟩ (3 + 2 * (g - e))
  | c4 {a e b q cl : Int} {v : PVersion} {l : List PVersion} {s : PPin} {f : PFind} {m : Int} : Chained S b (v :: l) → Stage c key p S E pn ⟨c, key, 3, a, s, 0, e, false, f, ⟨cl, e, b, 4, false, ByteArray.empty, 0, q⟩, 0, false, ByteArray.empty, m⟩ 3
  | c5 {a e b q cl : Int} {v : PVersion} {l : List PVersion} {s : PPin} {f : PFind} {m : Int} : Chained S b (v :: l) → Stage c key p S E pn ⟨c, key, 3, a, s, 0, e, false, f, ⟨cl, e, b, 5, false, ByteArray.empty, 0, q⟩, 0, false, ByteArray.empty, m⟩ 2
  | fr {a e : Int} {s : PPin} {f : PFind} {x : PChain} {m : Int} {tk : Bool} {v : ByteArray} : Stage c key p S E pn ⟨c, key, 4, a, s, 0, e, false, f, x, 0, tk, v, m⟩ 1
  | dn {s : PRead} : s.part = 5 → s.code = 0 → Stage c key p S E pn s 0
variable {c : PCfg} {key : ByteArray} {p : Nat} {S : PHeap} {E : Int} {pn : Nat → Int} {s : PRead} {n : Int}
theorem Stage.pos (h : Stage c key p S E pn s n) : 0 ≤ n := by
  cases h <;> omega
theorem stage_new (hc : c.Right) (hp : pn 0 = 0) : Stage c key p S E pn (newRead c 0 key) 10 := by
  unfold newRead newPin
  rw [if_pos ((PCfg.right_iff c).2 hc), Int.zero_emod]
  exact .p1 hp
/-- The epoch goes on: two more acts at most. -/
theorem Stage.raise (h : Stage c key p S E pn s n) {S' : PHeap} (hold : ∀ k x, 2 ≤ k → S.find k = some x → S'.find k = some x) : ∃ n', Stage c key p S' (E + 1) pn s n' ∧ n' ≤ n + 2 := by
  cases h with
  | p1 h => exact ⟨_, .p1 h, by omega⟩
  | p2 h h1 h2 => exact ⟨_, .p2 h h1 (by omega), by omega⟩
  | p3 h1 h2 => exact ⟨_, .p3 h1 (by omega), by omega⟩
  | p4 h1 h2 => exact ⟨_, .p4 h1 (by omega), by omega⟩
  | f0 h1 h2 => exact ⟨_, .f0 h1 (by omega), by omega⟩
  | f1 h1 h2 h3 h4 =>
    obtain ⟨y, h4, h5⟩ := h4
    exact ⟨_, .f1 h1 (by omega) h3 ⟨y, hold _ _ h3 h4, h5⟩, by omega⟩
  | c1 h1 h2 => exact ⟨_, .c1 h1 (by omega), by omega⟩
  | c2 h1 h2 h3 h4 => exact ⟨_, .c2 h1 h2 h3 (Chained.mono hold h4), by omega⟩
  | c3 h1 h2 h3 h4 => exact ⟨_, .c3 h1 h2 h3 (Chained.mono hold h4), by omega⟩
  | c4 h => exact ⟨_, .c4 (Chained.mono hold h), by omega⟩
  | c5 h => exact ⟨_, .c5 (Chained.mono hold h), by omega⟩
  | fr => exact ⟨_, .fr, by omega⟩
  | dn h1 h2 => exact ⟨_, .dn h1 h2, by omega⟩
section
variable {a e b q cl m : Int} {f : PFind} {x : PChain} {g : PGot} {s1 : PPin}
theorem take_p1 : PRead.take ⟨c, key, 1, a, ⟨c, 0, 0, 1, 0, e, false⟩, 0, 0, false, f, x, 0, false, ByteArray.empty, m⟩ g = ⟨c, key, 1, IntKind.i64.wrap (a + 1), ⟨c, 0, 0, 2, 0, g.word, false⟩, 0, 0, false, f, x, 0, false, ByteArray.empty, m⟩ := by simp [PRead.take, PPin.take, PRead.settle1]
theorem take_p2 (hg : g.word = 0) : PRead.take ⟨c, key, 1, a, ⟨c, 0, 0, 2, 0, e, false⟩, 0, 0, false, f, x, 0, false, ByteArray.empty, m⟩ g = ⟨c, key, 1, IntKind.i64.wrap (a + 1), ⟨c, 0, 0, 3, 0, e, false⟩, 0, 0, false, f, x, 0, false, ByteArray.empty, m⟩ := by simp [PRead.take, PPin.take, PRead.settle1, hg]
theorem take_p3 (hg : g.word = e) : PRead.take ⟨c, key, 1, a, ⟨c, 0, 0, 3, 0, e, false⟩, 0, 0, false, f, x, 0, false, ByteArray.empty, m⟩ g = ⟨c, key, 2, IntKind.i64.wrap (a + 1), ⟨c, 0, 0, 5, 0, e, false⟩, 0, e, false, newFind c key, x, 0, false, ByteArray.empty, IntKind.i64.wrap (a + 1)⟩ := by simp [PRead.take, PPin.take, PRead.settle1, hg, PPin.at_]
theorem take_p3' (hg : g.word ≠ e) : PRead.take ⟨c, key, 1, a, ⟨c, 0, 0, 3, 0, e, false⟩, 0, 0, false, f, x, 0, false, ByteArray.empty, m⟩ g = ⟨c, key, 1, IntKind.i64.wrap (a + 1), ⟨c, 0, 0, 4, 0, g.word, false⟩, 0, 0, false, f, x, 0, false, ByteArray.empty, m⟩ := by simp [PRead.take, PPin.take, PRead.settle1, hg]
theorem take_p4 : PRead.take ⟨c, key, 1, a, ⟨c, 0, 0, 4, 0, e, false⟩, 0, 0, false, f, x, 0, false, ByteArray.empty, m⟩ g = ⟨c, key, 1, IntKind.i64.wrap (a + 1), ⟨c, 0, 0, 3, 0, e, false⟩, 0, 0, false, f, x, 0, false, ByteArray.empty, m⟩ := by simp [PRead.take, PPin.take, PRead.settle1]
theorem take_f0 (hr : c.right = true) (hg : g.word ≠ 0) : PRead.take ⟨c, key, 2, a, s1, 0, e, false, newFind c key, x, 0, false, ByteArray.empty, m⟩ g = ⟨c, key, 2, IntKind.i64.wrap (a + 1), s1, 0, e, false, ⟨c, key, sumP c.seed key, 0, g.word, 0, 0, c.right⟩, x, 0, false, ByteArray.empty, m⟩ := by
  simp [PRead.take, PFind.take, PFind.idle, newFind, PRead.settle2, hg, hr]
theorem take_f1 (hr : c.right = true) (hb : b ≠ 0) (hg : g.text = key) : PRead.take ⟨c, key, 2, a, s1, 0, e, false, ⟨c, key, sumP c.seed key, 0, b, 0, 0, c.right⟩, x, 0, false, ByteArray.empty, m⟩ g = ⟨c, key, 3, IntKind.i64.wrap (a + 1), s1, 0, e, false, ⟨c, key, sumP c.seed key, 0, b, 1, placeP (sumP c.seed key) c.shelves 0, c.right⟩, newChain (3 + c.pins + c.cap + 2 * placeP (sumP c.seed key) c.shelves 0 + 1) e, 0, false, ByteArray.empty, m⟩ := by
  simp [PRead.take, PFind.take, PFind.idle, PRead.settle2, hg, hr, hb, PFind.place]
theorem take_c1 (hg : g.word ≠ 0) : PRead.take ⟨c, key, 3, a, s1, 0, e, false, f, newChain cl e, 0, false, ByteArray.empty, m⟩ g = ⟨c, key, 3, IntKind.i64.wrap (a + 1), s1, 0, e, false, f, ⟨cl, e, g.word, 2, false, ByteArray.empty, 0, 0⟩, 0, false, ByteArray.empty, m⟩ := by
  simp [PRead.take, PChain.take, newChain, PChain.down, PRead.settle3, hg]
theorem take_c2 (hg : e < g.word) : PRead.take ⟨c, key, 3, a, s1, 0, e, false, f, ⟨cl, e, b, 2, false, ByteArray.empty, 0, q⟩, 0, false, ByteArray.empty, m⟩ g = ⟨c, key, 3, IntKind.i64.wrap (a + 1), s1, 0, e, false, f, ⟨cl, e, b, 3, false, ByteArray.empty, 0, q⟩, 0, false, ByteArray.empty, m⟩ := by
  simp [PRead.take, PChain.take, PRead.settle3, hg]
theorem take_c2' (hg : ¬ e < g.word) : PRead.take ⟨c, key, 3, a, s1, 0, e, false, f, ⟨cl, e, b, 2, false, ByteArray.empty, 0, q⟩, 0, false, ByteArray.empty, m⟩ g = ⟨c, key, 3, IntKind.i64.wrap (a + 1), s1, 0, e, false, f, ⟨cl, e, b, 4, false, ByteArray.empty, 0, q⟩, 0, false, ByteArray.empty, m⟩ := by
  simp [PRead.take, PChain.take, PRead.settle3, hg]
theorem take_c3 (hg : g.word ≠ 0) : PRead.take ⟨c, key, 3, a, s1, 0, e, false, f, ⟨cl, e, b, 3, false, ByteArray.empty, 0, q⟩, 0, false, ByteArray.empty, m⟩ g = ⟨c, key, 3, IntKind.i64.wrap (a + 1), s1, 0, e, false, f, ⟨cl, e, g.word, 2, false, ByteArray.empty, 0, IntKind.i64.wrap (q + 1)⟩, 0, false, ByteArray.empty, m⟩ := by
  simp [PRead.take, PChain.take, PChain.down, PRead.settle3, hg]
theorem take_c4 (hg : g.word = 0) : ∃ y tk v, PRead.take ⟨c, key, 3, a, s1, 0, e, false, f, ⟨cl, e, b, 4, false, ByteArray.empty, 0, q⟩, 0, false, ByteArray.empty, m⟩ g = ⟨c, key, 4, IntKind.i64.wrap (a + 1), s1, 0, e, false, f, y, 0, tk, v, m⟩ := by
  refine ⟨PChain.done_ ⟨cl, e, b, 5, false, ByteArray.empty, 0, q⟩ false ByteArray.empty, false, ByteArray.empty, ?_⟩
  simp [PRead.take, PChain.take, PChain.done_, PRead.settle3, hg]
theorem take_c4' (hg : g.word ≠ 0) : PRead.take ⟨c, key, 3, a, s1, 0, e, false, f, ⟨cl, e, b, 4, false, ByteArray.empty, 0, q⟩, 0, false, ByteArray.empty, m⟩ g = ⟨c, key, 3, IntKind.i64.wrap (a + 1), s1, 0, e, false, f, ⟨cl, e, b, 5, false, ByteArray.empty, 0, q⟩, 0, false, ByteArray.empty, m⟩ := by
  simp [PRead.take, PChain.take, PRead.settle3, hg]
theorem take_c5 : ∃ y tk v, PRead.take ⟨c, key, 3, a, s1, 0, e, false, f, ⟨cl, e, b, 5, false, ByteArray.empty, 0, q⟩, 0, false, ByteArray.empty, m⟩ g = ⟨c, key, 4, IntKind.i64.wrap (a + 1), s1, 0, e, false, f, y, 0, tk, v, m⟩ := by
  refine ⟨PChain.done_ ⟨cl, e, b, 5, false, ByteArray.empty, 0, q⟩ true g.text, true, g.text, ?_⟩
  simp [PRead.take, PChain.take, PChain.done_, PRead.settle3]
end
/-- One step of it. -/
structure Stepped (c : PCfg) (key : ByteArray) (p : Nat) (S : PHeap) (E : Int) (s : PRead) (n : Int) (x : PAct) : Prop where
  act : s.act = (x, true)
  ready : S.ready x = true
  kind : x.kind ≠ 8
  next : ∀ r, ∃ pn' n', One c key p (S.act x r).2 E pn' ∧ Stage c key p (S.act x r).2 E pn' (s.take (S.act x r).1) n' ∧ n' + 1 ≤ n ∧ (S.act x r).2.last = S.last
theorem one_pin (hc : c.Right) (h : One c key p S E pn) (v : Int) : One c key p (S.set 1 3 v) E (fun j => if j = 0 then v else pn j) := by
  obtain ⟨⟨tx, st, hL, h1, h2⟩, h3, h4⟩ := h
  have hp := hc.pins
  exact ⟨⟨tx, st, hL.pin hc 0 (by omega) v, h1, h2⟩, h3, h4⟩
theorem fall_cons {g : Int} {l : List PVersion} (h : Fall g l) (hg : 0 ≤ g) : ∃ v l', l = v :: l' ∧ v.epoch = g ∧ Fall (g - 1) l' := by
  cases l with
  | nil => have : g = -1 := h; omega
  | cons v l => exact ⟨v, l, rfl, h.1, h.2⟩
theorem stage_step (hc : c.Right) (hO : One c key p S E pn) (h : Stage c key p S E pn s n) (hne : s.part ≠ 5) : ∃ x, Stepped c key p S E s n x := by
  obtain ⟨⟨tx, st, hL, htx, hF⟩, hpl, hE⟩ := id hO
  have hp := hc.pins
  have hr : c.right = true := (PCfg.right_iff c).2 hc
  have hps : (p : Int) < c.shelves := by rw [← hpl]; exact (plN_eq hc key 0).2
  have he := hL.epoch
  have h3 := hL.pins 0 (by omega)
  rw [Nat.add_zero] at h3
  have hk := kcell_eq hc p
  have hplace : placeP (sumP c.seed key) c.shelves 0 = (p : Int) := by have := (plN_eq hc key 0).1; rw [hpl] at this; exact this
  have eload : ∀ r, S.act ⟨1, 1, 0, 0, 0, ByteArray.empty⟩ r = (⟨E, ByteArray.empty⟩, S) := fun r => he.load r
  cases h with
  | @p1 a e f x m h =>
    refine ⟨⟨1, 1, 0, 0, 0, ByteArray.empty⟩, by simp [PRead.act, PPin.act], ready_load S 0, by simp, fun r => ?_⟩
    rw [eload]
    exact ⟨pn, 9 + 2 * (E - E), hO, by rw [take_p1]; exact .p2 h hE (Int.le_refl _), by omega, rfl⟩
  | @p2 a e f x m h h1 h2 =>
    refine ⟨⟨3, 1, 3, 0, IntKind.u64.wrap (e + 1), ByteArray.empty⟩, by simp [PRead.act, PPin.act, PPin.at_], ready_swap S 3 0 _, by simp, fun r => ?_⟩
    have e1 : S.act ⟨3, 1, 3, 0, IntKind.u64.wrap (e + 1), ByteArray.empty⟩ r = (⟨0, ByteArray.empty⟩, S.set 1 3 (IntKind.u64.wrap (e + 1))) := by
      have e2 := h3.swap 0 (IntKind.u64.wrap (e + 1)) r
      rw [h, if_pos rfl] at e2
      exact e2
    rw [e1]
    exact ⟨_, 8 + 2 * (E - e), one_pin hc hO _, by rw [take_p2 rfl]; exact .p3 h1 h2, by omega, rfl⟩
  | @p3 a e f x m h1 h2 =>
    refine ⟨⟨1, 1, 0, 0, 0, ByteArray.empty⟩, by simp [PRead.act, PPin.act], ready_load S 0, by simp, fun r => ?_⟩
    rw [eload]
    by_cases hEe : E = e
    · subst hEe
      exact ⟨pn, 7 + 2 * (E - E), hO, by rw [take_p3 (g := ⟨E, ByteArray.empty⟩) (e := E) rfl]; exact .f0 h1 h2, by omega, rfl⟩
    · exact ⟨pn, 9 + 2 * (E - E), hO, by rw [take_p3' hEe]; exact .p4 hE (Int.le_refl _), by omega, rfl⟩
  | @p4 a e f x m h1 h2 =>
    refine ⟨⟨2, 1, 3, 0, IntKind.u64.wrap (e + 1), ByteArray.empty⟩, by simp [PRead.act, PPin.act, PPin.at_], ready_store S 3 _, by simp, fun r => ?_⟩
    have e1 : S.act ⟨2, 1, 3, 0, IntKind.u64.wrap (e + 1), ByteArray.empty⟩ r = (⟨0, ByteArray.empty⟩, S.set 1 3 (IntKind.u64.wrap (e + 1))) := h3.store (IntKind.u64.wrap (e + 1)) r
    rw [e1]
    exact ⟨_, 8 + 2 * (E - e), one_pin hc hO _, by rw [take_p4]; exact .p3 h1 h2, by omega, rfl⟩
  | @f0 a e s1 x m h1 h2 =>
    obtain ⟨v, hv, _, hv2⟩ := hL.shelved.at_ p hps
    obtain ⟨hv3, y, hv4, hv5⟩ := hv2 key htx
    refine ⟨⟨1, 1, ((kcell c p : Nat) : Int), 0, 0, ByteArray.empty⟩, ?_, ready_load S _, by simp, fun r => ?_⟩
    · simp [PRead.act, PFind.act, PFind.idle, newFind, hr, PFind.place, hplace]
      omega
    rw [hv.load]
    exact ⟨pn, 6 + 2 * (E - e), hO, by rw [take_f0 hr (by show v ≠ 0; omega)]; exact .f1 h1 h2 hv3 ⟨y, hv4, hv5⟩, by omega, rfl⟩
  | @f1 a e b s1 x m h1 h2 hb h4 =>
    obtain ⟨y, hy, hyt⟩ := h4
    refine ⟨⟨6, b, 0, 0, 0, ByteArray.empty⟩, ?_, ready_words S b, by simp, fun r => ?_⟩
    · have hb0 : b ≠ 0 := by omega
      simp [PRead.act, PFind.act, PFind.idle, hr, hb0]
    rw [act_words hy]
    refine ⟨pn, 5 + 2 * (E - e), hO, ?_, by omega, rfl⟩
    rw [take_f1 hr (by omega) hyt, show 3 + c.pins + c.cap + 2 * placeP (sumP c.seed key) c.shelves 0 + 1 = ((kcell c p + 1 : Nat) : Int) by rw [hplace]; omega]
    exact .c1 h1 h2
  | @c1 a e s1 f m h1 h2 =>
    obtain ⟨x, hx1, hx2, hx3⟩ := hL.stack p hps
    have hx0 : x ≠ 0 := by
      obtain ⟨v, l', hv, _⟩ := fall_cons hF hE
      rw [hv] at hx2
      have := hx2.2.1
      rw [hx2.1]
      omega
    refine ⟨⟨1, 1, ((kcell c p + 1 : Nat) : Int), 0, 0, ByteArray.empty⟩, by simp [PRead.act, PChain.act, newChain], ready_load S _, by simp, fun r => ?_⟩
    rw [hx1.load]
    exact ⟨pn, 4 + 2 * (E - e), hO, by rw [take_c1 hx0]; exact .c2 h1 h2 hF hx2, by omega, rfl⟩
  | @c2 a e g b q cl l s1 f m h1 h2 h4 h5 =>
    obtain ⟨v, l', rfl, hv1, hv2⟩ := fall_cons h4 (by omega)
    obtain ⟨k1, k2, y, k3, k4, k5, k6, k7, k8⟩ := id h5
    rw [← k1] at k3
    refine ⟨⟨1, b, 0, 0, 0, ByteArray.empty⟩, by simp [PRead.act, PChain.act], ready_loadB S b 0, by simp, fun r => ?_⟩
    rw [show S.act ⟨1, b, 0, 0, 0, ByteArray.empty⟩ r = _ from act_loadB k3 0 (by omega) r, k5, hv1]
    by_cases hlt : e < g
    · exact ⟨pn, 3 + 2 * (g - e), hO, by rw [take_c2 hlt]; exact .c3 h1 hlt h4 h5, by omega, rfl⟩
    · exact ⟨pn, 3, hO, by rw [take_c2' hlt]; exact .c4 h5, by omega, rfl⟩
  | @c3 a e g b q cl l s1 f m h1 h2 h4 h5 =>
    obtain ⟨v, l', rfl, hv1, hv2⟩ := fall_cons h4 (by omega)
    obtain ⟨k1, k2, y, k3, k4, k5, k6, k7, k8⟩ := id h5
    rw [← k1] at k3
    have hx0 : y.nth 1 ≠ 0 := by
      obtain ⟨v', l2, hv, _⟩ := fall_cons hv2 (by omega)
      rw [hv] at k8
      have := k8.2.1
      rw [k8.1]
      omega
    refine ⟨⟨1, b, 1, 0, 0, ByteArray.empty⟩, by simp [PRead.act, PChain.act], ready_loadB S b 1, by simp, fun r => ?_⟩
    rw [show S.act ⟨1, b, 1, 0, 0, ByteArray.empty⟩ r = _ from act_loadB k3 1 (by omega) r]
    exact ⟨pn, 4 + 2 * (g - 1 - e), hO, by rw [take_c3 hx0]; exact .c2 h1 (by omega) hv2 k8, by omega, rfl⟩
  | @c4 a e b q cl v l s1 f m h5 =>
    obtain ⟨k1, k2, y, k3, k4, k5, k6, k7, k8⟩ := id h5
    rw [← k1] at k3
    refine ⟨⟨1, b, 2, 0, 0, ByteArray.empty⟩, by simp [PRead.act, PChain.act], ready_loadB S b 2, by simp, fun r => ?_⟩
    rw [show S.act ⟨1, b, 2, 0, 0, ByteArray.empty⟩ r = _ from act_loadB k3 2 (by omega) r]
    by_cases h0 : y.nth 2 = 0
    · obtain ⟨y', tk, t, hy⟩ := take_c4 (c := c) (key := key) (a := a) (e := e) (b := b) (q := q) (cl := cl) (m := m) (f := f) (s1 := s1) (g := ⟨y.nth 2, ByteArray.empty⟩) h0
      exact ⟨pn, 1, hO, by rw [hy]; exact .fr, by omega, rfl⟩
    · exact ⟨pn, 2, hO, by rw [take_c4' h0]; exact .c5 h5, by omega, rfl⟩
  | @c5 a e b q cl v l s1 f m h5 =>
    obtain ⟨k1, k2, y, k3, k4, k5, k6, k7, k8⟩ := id h5
    rw [← k1] at k3
    refine ⟨⟨6, b, 0, 0, 0, ByteArray.empty⟩, by simp [PRead.act, PChain.act], ready_words S b, by simp, fun r => ?_⟩
    rw [act_words k3]
    obtain ⟨y', tk, t, hy⟩ := take_c5 (c := c) (key := key) (a := a) (e := e) (b := b) (q := q) (cl := cl) (m := m) (f := f) (s1 := s1) (g := ⟨0, y.text⟩)
    exact ⟨pn, 1, hO, by rw [hy]; exact .fr, by omega, rfl⟩
  | @fr a e s1 f x m tk v =>
    refine ⟨⟨2, 1, 3, 0, 0, ByteArray.empty⟩, by simp [PRead.act], ready_store S 3 _, by simp, fun r => ?_⟩
    have e1 : S.act ⟨2, 1, 3, 0, 0, ByteArray.empty⟩ r = (⟨0, ByteArray.empty⟩, S.set 1 3 0) := h3.store 0 r
    rw [e1]
    exact ⟨_, 0, one_pin hc hO _, .dn (by simp [PRead.take]) (by simp [PRead.take]), by omega, rfl⟩
  | dn h1 h2 => exact absurd h1 hne
/-- A run of it. -/
theorem stage_run (hc : c.Right) : ∀ (xs : List (PAct × PGot)) {S S' : PHeap} {pn : Nat → Int} {s s' : PRead} {n : Int}, One c key p S E pn → Stage c key p S E pn s n → Runs readRout S s xs S' s' → ∃ pn' n', One c key p S' E pn' ∧ Stage c key p S' E pn' s' n' ∧ n' + xs.length ≤ n ∧ S'.last = S.last
  | [], S, S', pn, s, s', n, hO, h, hr => by
    obtain ⟨rfl, rfl⟩ := hr
    exact ⟨pn, n, hO, h, by simp, rfl⟩
  | x :: xs, S, S', pn, s, s', n, hO, h, hr => by
    obtain ⟨hcan, r, hx, hr⟩ := hr
    have hne : s.part ≠ 5 := fun h5 => by
      have e : readRout.act s = (noAct, false) := by show PRead.act s = _; simp [PRead.act, h5]
      unfold Rout.can at hcan
      rw [e] at hcan
      cases hcan
    obtain ⟨y, hy⟩ := stage_step hc hO h hne
    have e : readRout.act s = (y, true) := hy.act
    rw [e] at hr
    obtain ⟨pn1, n1, k1, k2, k3, k4⟩ := hy.next r
    obtain ⟨pn2, n2, j1, j2, j3, j4⟩ := stage_run hc xs k1 k2 hr
    exact ⟨pn2, n2, j1, j2, by simp only [List.length_cons]; omega, j4.trans k4⟩
theorem stage_stop (hc : c.Right) (hO : One c key p S E pn) (h : Stage c key p S E pn s n) (hcan : readRout.can S s = false) : s.part = 5 ∧ s.code = 0 := by
  have h5 : s.part = 5 := by
    rcases Classical.em (s.part = 5) with h5 | h5
    · exact h5
    · obtain ⟨y, hy⟩ := stage_step hc hO h h5
      have e : readRout.act s = (y, true) := hy.act
      unfold Rout.can at hcan
      rw [e, show S.ready (y, true).1 = true from hy.ready] at hcan
      cases hcan
  refine ⟨h5, ?_⟩
  cases h <;> first | assumption | (simp at h5)
end Go.Proofs.Ytfelkkbgbgnpaaa
