import Derived.Test.YtmlnhjfdhjachaaGreatFindZ
import Derived.Test.YtmlnhjfdhjachaaGreatCtlO
import Derived.Test.YtmlnhjfdhjachaaGreatAlone
/-
  Looking for a key's shelf (layer 23): the plain law. No condition.
-/
namespace Go.Proofs.YtmlnhjfdhjachaaGreat
set_option linter.unusedVariables false
open Go.ChangeShapes Go.WideShapes Go.ChangeAt Go.RowKit
open Go.ChangeMaps (setBlock)

def kcell (c : PCfg) (j : Nat) : Nat := (3 + c.pins + c.cap).toNat + 2 * j
theorem kcell_eq {c : PCfg} (h : c.Right) (j : Nat) : ((kcell c j : Nat) : Int) = 3 + c.pins + c.cap + 2 * j := by
  have := h.pins
  have := h.cap
  unfold kcell
  omega
/-- Which key stands on which shelf, and the blocks that have them. -/
structure Shelved (S : PHeap) (c : PCfg) (tx : Nat → Option ByteArray) : Prop where
  at_ : ∀ j : Nat, (j : Int) < c.shelves → ∃ v, CtlAt S (kcell c j) v ∧ (tx j = none → v = 0) ∧ (∀ t, tx j = some t → 2 ≤ v ∧ ∃ b, S.find v = some b ∧ b.text = t)
  keys : ∀ x ∈ S.blocks, x.key ≤ S.last
  one : 1 ≤ S.last
theorem field_shelved (c : PCfg) (hc : c.Right) (r : Nat) : Shelved (fieldS c r) c (fun _ => none) := by
  refine ⟨fun j hj => ⟨0, field_ctl c r (kcell c j) ?_, fun _ => rfl, fun t h => by cases h⟩, fun x hx => ?_, Int.le_refl _⟩
  · have h1 := kcell_eq hc j
    have h2 := (ctlSize_eq hc).1
    omega
  · simp [fieldS] at hx
    rw [hx]
    exact Int.le_refl _
/-- The heap with one block more. -/
def PHeap.more (S : PHeap) (r : Nat) (t : ByteArray) : PHeap := { S with blocks := S.blocks ++ [⟨S.last + 1, r, List.replicate 0 0, t⟩], last := S.last + 1 }
theorem more_find_old {S : PHeap} {b : Int} {x : PBlk} (h : S.find b = some x) (r : Nat) (t : ByteArray) : (S.more r t).find b = some x := by
  unfold PHeap.find PHeap.more at *
  rw [List.find?_append, h]
  rfl
theorem more_find_new {S : PHeap} (hk : ∀ x ∈ S.blocks, x.key ≤ S.last) (r : Nat) (t : ByteArray) : (S.more r t).find (S.last + 1) = some ⟨S.last + 1, r, List.replicate 0 0, t⟩ := by
  unfold PHeap.find PHeap.more
  rw [List.find?_append]
  have : S.blocks.find? (fun b => b.key == S.last + 1) = none := by
    rw [List.find?_eq_none]
    intro x hx
    have := hk x hx
    simp
    omega
  rw [this]
  simp
theorem CtlAt.more {S : PHeap} {i : Nat} {x : Int} (h : CtlAt S i x) (r : Nat) (t : ByteArray) : CtlAt (S.more r t) i x := by
  obtain ⟨b, h1, h2, h3⟩ := h
  exact ⟨b, more_find_old h1 r t, h2, h3⟩
def putT (tx : Nat → Option ByteArray) (p : Nat) (t : ByteArray) : Nat → Option ByteArray := fun j => if j = p then some t else tx j
theorem Shelved.put {S : PHeap} {c : PCfg} {tx : Nat → Option ByteArray} (h : Shelved S c tx) (p : Nat) (hp : (p : Int) < c.shelves) (r : Nat) (t : ByteArray) : Shelved ((S.more r t).set 1 (kcell c p) (S.last + 1)) c (putT tx p t) := by
  have h1 := h.one
  refine ⟨fun j hj => ?_, fun x hx => ?_, by show 1 ≤ S.last + 1; omega⟩
  · by_cases hjp : j = p
    · subst hjp
      obtain ⟨v, k1, _⟩ := h.at_ j hj
      refine ⟨S.last + 1, (k1.more r t).same _, fun k => by simp [putT] at k, fun t' k => ?_⟩
      have e : t = t' := by simpa [putT] using k
      subst e
      refine ⟨by omega, ⟨S.last + 1, r, List.replicate 0 0, t⟩, ?_, rfl⟩
      rw [find_other _ _ _ _ _ (by omega)]
      exact more_find_new h.keys r t
    · obtain ⟨v, k1, k2, k3⟩ := h.at_ j hj
      refine ⟨v, (k1.more r t).other _ (by unfold kcell; omega), fun k => k2 (by simpa [putT, hjp] using k), fun t' k => ?_⟩
      obtain ⟨k4, b, k5, k6⟩ := k3 t' (by simpa [putT, hjp] using k)
      refine ⟨k4, b, ?_, k6⟩
      rw [find_other _ _ _ _ _ (by omega)]
      exact more_find_old k5 r t
  · obtain ⟨y, hy, rfl⟩ := List.mem_map.1 hx
    have hk : y.key ≤ S.last + 1 := by
      rcases List.mem_append.1 hy with hy | hy
      · have := h.keys y hy
        omega
      · simp at hy
        rw [hy]
        exact Int.le_refl _
    show (if y.key = 1 then ({ y with cells := y.cells.set (kcell c p) (S.last + 1) } : PBlk) else y).key ≤ S.last + 1
    split <;> exact hk
/-- What is found, where, and in how many acts: from the k-th place on. -/
def lookP (key : ByteArray) (pl : Nat → Nat) (tx : Nat → Option ByteArray) : Nat → Nat → Int × Int × Nat
  | 0, _ => (3, 0, 0)
  | d + 1, k => match tx (pl k) with
    | none => (2, (pl k : Nat), 1)
    | some t => if t = key then (1, (pl k : Nat), 2) else ((lookP key pl tx d (k + 1)).1, (lookP key pl tx d (k + 1)).2.1, (lookP key pl tx d (k + 1)).2.2 + 2)
def plN (c : PCfg) (key : ByteArray) (i : Nat) : Nat := (placeP (sumP c.seed key) c.shelves i).toNat
theorem plN_eq {c : PCfg} (h : c.Right) (key : ByteArray) (i : Nat) : placeP (sumP c.seed key) c.shelves i = (plN c key i : Nat) ∧ ((plN c key i : Nat) : Int) < c.shelves := by
  have := placeP_ok (sumP c.seed key) c.shelves i h.shelves.1
  unfold plN
  omega
theorem pl_cover {c : PCfg} (h : c.Right) (key : ByteArray) (j : Nat) (hj : (j : Int) < c.shelves) : ∃ i : Nat, (i : Int) < c.shelves ∧ plN c key i = j := by
  have hs := h.shelves
  generalize hn : sumP c.seed key = n
  have h1 := Int.emod_nonneg ((j : Int) - n % c.shelves) (b := c.shelves) (by omega)
  have h2 := Int.emod_lt_of_pos ((j : Int) - n % c.shelves) (b := c.shelves) (by omega)
  refine ⟨(((j : Int) - n % c.shelves) % c.shelves).toNat, by omega, ?_⟩
  unfold plN placeP
  rw [hn, show ((((j : Int) - n % c.shelves) % c.shelves).toNat : Int) = ((j : Int) - n % c.shelves) % c.shelves by omega, Int.add_emod_emod, show n % c.shelves + ((j : Int) - n % c.shelves) = (j : Int) by omega, Int.emod_eq_of_lt (by omega) hj]
  omega
theorem right_words (b : Int) : PAct.right ⟨6, b, 0, 0, 0, ByteArray.empty⟩ = true := by simp [PAct.right, PAct.fit]
theorem act_words {S : PHeap} {b : Int} {x : PBlk} (h : S.find b = some x) (r : Nat) : S.act ⟨6, b, 0, 0, 0, ByteArray.empty⟩ r = (⟨0, x.text⟩, S) := by
  simp [PHeap.act, right_words, PHeap.words, h]
theorem ready_words (S : PHeap) (b : Int) : S.ready ⟨6, b, 0, 0, 0, ByteArray.empty⟩ = true := by simp [PHeap.ready, right_words]
theorem runs_end {c : PCfg} {key : ByteArray} {k : Nat} {b kd sh : Int} (hk : kd ≠ 0) {S S' : PHeap} {s' : PFind} {xs : List (PAct × PGot)} (h : Runs findRout S (findEnd c key k b kd sh) xs S' s') : xs = [] ∧ S' = S ∧ s' = findEnd c key k b kd sh := by
  match xs, h with
  | [], h => exact ⟨rfl, h.1.symm, h.2.symm⟩
  | y :: l, h =>
    obtain ⟨h1, _⟩ := h
    have : findRout.can S (findEnd c key k b kd sh) = false := by
      show ((PFind.act _).2 && _) = false
      rw [findEnd_act _ _ _ _ _ _ hk]
      rfl
    rw [this] at h1
    cases h1
def FoundP (c : PCfg) (key : ByteArray) (L : Int × Int × Nat) (S S' : PHeap) (s' : PFind) (n : Nat) : Prop :=
  n = L.2.2 ∧ S' = S ∧ s'.act = (noAct, false) ∧ s'.result = ((L.1, L.2.1), true)
theorem find_run {c : PCfg} (hc : c.Right) {key : ByteArray} {S : PHeap} {tx : Nat → Option ByteArray} (hS : Shelved S c tx) : ∀ (d k : Nat) {S' : PHeap} {s' : PFind} {xs : List (PAct × PGot)} {m : Int}, (d : Int) = c.shelves - k → 0 < d →
    Runs findRout S (findAt c key k 0) xs S' s' → (m ≤ (xs.length : Nat) ∨ findRout.can S' s' = false) → 2 * (d : Int) + 1 ≤ m → FoundP c key (lookP key (plN c key) tx d k) S S' s' xs.length
  | 0, k, S', s', xs, m, hd, h0, h, hst, hm => by omega
  | d + 1, k, S', s', xs, m, hd, h0, h, hst, hm => by
    obtain ⟨hpl, hpl2⟩ := plN_eq hc key k
    have ha := findAt_act0 c key k
    rw [hpl, ← kcell_eq hc] at ha
    obtain ⟨v, hv, hv0, hv1⟩ := hS.at_ (plN c key k) hpl2
    have hend : ∀ (S1 S2 : PHeap) (s2 : PFind) (l : List (PAct × PGot)) (j : Nat) (b kd sh : Int), kd ≠ 0 → Runs findRout S1 (findEnd c key j b kd sh) l S2 s2 → l = [] ∧ S2 = S1 ∧ s2.act = (noAct, false) ∧ s2.result = ((kd, sh), true) := fun S1 S2 s2 l j b kd sh hk hr => by
      obtain ⟨e1, e2, e3⟩ := runs_end hk hr
      subst e3
      exact ⟨e1, e2, findEnd_act _ _ _ _ _ _ hk, findEnd_result _ _ _ _ _ _ hk⟩
    match xs, h with
    | [], h =>
      obtain ⟨rfl, rfl⟩ := h
      rcases hst with h1 | h1
      · simp at h1; omega
      · have : findRout.can S (findAt c key k 0) = true := by
          show ((PFind.act _).2 && _) = true
          rw [show (findRout.act (findAt c key k 0)) = (findAt c key k 0).act from rfl, ha]
          exact ready_load S _
        rw [this] at h1
        cases h1
    | y :: l, h =>
      obtain ⟨_, r, _, h⟩ := h
      have hld : S.act (findRout.act (findAt c key k 0)).1 r = (⟨v, ByteArray.empty⟩, S) := by
        show S.act (findAt c key k 0).act.1 r = _
        rw [ha]
        exact hv.load r
      rw [hld] at h
      have htk : findRout.take (findAt c key k 0) ⟨v, ByteArray.empty⟩ = if v = 0 then findEnd c key k 0 2 (plN c key k : Nat) else findAt c key k v := by
        show (findAt c key k 0).take _ = _
        rw [findAt_take0, hpl]
      rw [htk] at h
      unfold lookP
      cases htx : tx (plN c key k) with
      | none =>
        rw [if_pos (hv0 htx)] at h
        obtain ⟨e1, e2, e3, e4⟩ := hend _ _ _ _ _ _ _ _ (by decide) h
        subst e1
        exact ⟨rfl, e2, e3, e4⟩
      | some t =>
        obtain ⟨hv2, b, hb1, hb2⟩ := hv1 t htx
        have hvn : v ≠ 0 := by omega
        rw [if_neg hvn] at h
        have ha1 := findAt_act c key k v hvn
        match l, h with
        | [], h =>
          obtain ⟨rfl, rfl⟩ := h
          rcases hst with h1 | h1
          · simp at h1; omega
          · have : findRout.can S (findAt c key k v) = true := by
              show ((PFind.act _).2 && _) = true
              rw [show (findRout.act (findAt c key k v)) = (findAt c key k v).act from rfl, ha1]
              exact ready_words S _
            rw [this] at h1
            cases h1
        | z :: l, h =>
          obtain ⟨_, r2, _, h⟩ := h
          have hwd : S.act (findRout.act (findAt c key k v)).1 r2 = (⟨0, t⟩, S) := by
            show S.act (findAt c key k v).act.1 r2 = _
            rw [ha1, act_words hb1, hb2]
          rw [hwd] at h
          have htk1 : findRout.take (findAt c key k v) ⟨0, t⟩ = if t = key then findEnd c key k v 1 (plN c key k : Nat) else if (k : Int) + 1 = c.shelves then findEnd c key (k + 1) 0 3 0 else findAt c key (k + 1) 0 := by
            show (findAt c key k v).take _ = _
            rw [findAt_take _ _ _ _ hvn, hpl]
          rw [htk1] at h
          by_cases htk : t = key
          · rw [if_pos htk] at h
            obtain ⟨e1, e2, e3, e4⟩ := hend _ _ _ _ _ _ _ _ (by decide) h
            subst e1
            simp only [htk, if_true]
            exact ⟨rfl, e2, e3, e4⟩
          · rw [if_neg htk] at h
            simp only [htk, if_false]
            by_cases hke : (k : Int) + 1 = c.shelves
            · rw [if_pos hke] at h
              obtain ⟨e1, e2, e3, e4⟩ := hend _ _ _ _ _ _ _ _ (by decide) h
              subst e1
              obtain rfl : d = 0 := by omega
              exact ⟨rfl, e2, e3, e4⟩
            · rw [if_neg hke] at h
              have hst2 : m - 2 ≤ (l.length : Nat) ∨ findRout.can S' s' = false := by
                rcases hst with h1 | h1
                · left; simp only [List.length_cons] at h1; omega
                · exact .inr h1
              obtain ⟨k1, k2, k3, k4⟩ := find_run hc hS d (k + 1) (m := m - 2) (by omega) (by omega) h hst2 (by omega)
              exact ⟨by simp only [List.length_cons]; omega, k2, k3, k4⟩
theorem find_alone {c : PCfg} (hc : c.Right) {key : ByteArray} {S S' : PHeap} {s' : PFind} {xs : List (PAct × PGot)} {m : Int} {tx : Nat → Option ByteArray} (hS : Shelved S c tx) (h : Runs findRout S (newFind c key) xs S' s') (hst : m ≤ (xs.length : Nat) ∨ findRout.can S' s' = false) (hm : 2 * c.shelves + 1 ≤ m) :
    FoundP c key (lookP key (plN c key) tx c.shelves.toNat 0) S S' s' xs.length := by
  have := hc.shelves
  rw [newFind_at c hc] at h
  exact find_run hc hS c.shelves.toNat 0 (by omega) (by omega) h hst (by omega)
/-- What is on a shelf stays. -/
def ExtT (tx tx' : Nat → Option ByteArray) : Prop := ∀ j t, tx j = some t → tx' j = some t
theorem put_ext {tx : Nat → Option ByteArray} {p : Nat} (hp : tx p = none) (t : ByteArray) : ExtT tx (putT tx p t) := fun j t' h => by
  unfold putT
  by_cases hj : j = p
  · subst hj
    rw [hp] at h
    cases h
  · rw [if_neg hj]
    exact h
theorem look_ext {key : ByteArray} {pl : Nat → Nat} {tx tx' : Nat → Option ByteArray} (he : ExtT tx tx') : ∀ (d k : Nat), (lookP key pl tx d k).1 ≠ 2 → lookP key pl tx' d k = lookP key pl tx d k
  | 0, k, h => rfl
  | d + 1, k, h => by
    unfold lookP at h ⊢
    cases htx : tx (pl k) with
    | none => rw [htx] at h; exact absurd rfl h
    | some t =>
      rw [htx] at h
      rw [he _ _ htx]
      by_cases htk : t = key
      · simp only [htk, if_true]
      · simp only [htk, if_false] at h ⊢
        rw [look_ext he d (k + 1) h]
theorem look_put {key : ByteArray} {pl : Nat → Nat} {tx : Nat → Option ByteArray} : ∀ (d k : Nat), (lookP key pl tx d k).1 = 2 → ∃ p : Nat, (lookP key pl tx d k).2.1 = p ∧ tx p = none ∧ (∃ i, p = pl i) ∧ lookP key pl (putT tx p key) d k = (1, (p : Int), (lookP key pl tx d k).2.2 + 1)
  | 0, k, h => by cases h
  | d + 1, k, h => by
    unfold lookP at h ⊢
    cases htx : tx (pl k) with
    | none =>
      refine ⟨pl k, rfl, htx, ⟨k, rfl⟩, ?_⟩
      simp [putT]
    | some t =>
      rw [htx] at h
      by_cases htk : t = key
      · simp only [htk, if_true] at h
        cases h
      · simp only [htk, if_false] at h ⊢
        obtain ⟨p, h1, h2, h3, h4⟩ := look_put d (k + 1) h
        refine ⟨p, h1, h2, h3, ?_⟩
        have hne : pl k ≠ p := fun e => by rw [e, h2] at htx; cases htx
        have e : putT tx p key (pl k) = some t := by unfold putT; rw [if_neg hne, htx]
        rw [e]
        simp only [htk, if_false]
        rw [h4]
theorem look_kind {key : ByteArray} {pl : Nat → Nat} {tx : Nat → Option ByteArray} : ∀ (d k : Nat), ((lookP key pl tx d k).1 = 1 ∧ ∃ p : Nat, (lookP key pl tx d k).2.1 = p ∧ tx p = some key ∧ ∃ i, p = pl i) ∨ (lookP key pl tx d k).1 = 2 ∨ ((lookP key pl tx d k).1 = 3 ∧ (lookP key pl tx d k).2.1 = 0 ∧ ∀ i, i < d → ∃ t, tx (pl (k + i)) = some t)
  | 0, k => .inr (.inr ⟨rfl, rfl, fun i h => by omega⟩)
  | d + 1, k => by
    unfold lookP
    cases htx : tx (pl k) with
    | none => exact .inr (.inl rfl)
    | some t =>
      by_cases htk : t = key
      · simp only [htk, if_true]
        rw [htk] at htx
        exact .inl ⟨trivial, pl k, rfl, htx, k, rfl⟩
      · simp only [htk, if_false]
        rcases look_kind (key := key) (pl := pl) (tx := tx) d (k + 1) with h | h | ⟨h1, h2, h3⟩
        · exact .inl h
        · exact .inr (.inl h)
        · refine .inr (.inr ⟨h1, h2, fun i hi => ?_⟩)
          cases i with
          | zero => exact ⟨t, htx⟩
          | succ i =>
            have := h3 i (by omega)
            rwa [show k + 1 + i = k + (i + 1) by omega] at this
/-- How many shelves have a key. -/
def cntT (tx : Nat → Option ByteArray) : Nat → Nat
  | 0 => 0
  | n + 1 => cntT tx n + (if (tx n).isSome then 1 else 0)
theorem cnt_le (tx : Nat → Option ByteArray) : ∀ n, cntT tx n ≤ n
  | 0 => Nat.le_refl _
  | n + 1 => by have := cnt_le tx n; unfold cntT; split <;> omega
theorem cnt_full (tx : Nat → Option ByteArray) : ∀ n, (∀ j, j < n → ∃ t, tx j = some t) → cntT tx n = n
  | 0, _ => rfl
  | n + 1, h => by
    obtain ⟨t, ht⟩ := h n (by omega)
    unfold cntT
    rw [cnt_full tx n fun j hj => h j (by omega), ht]
    rfl
theorem cnt_far {tx : Nat → Option ByteArray} {p : Nat} {t : ByteArray} : ∀ n, n ≤ p → cntT (putT tx p t) n = cntT tx n
  | 0, _ => rfl
  | n + 1, h => by
    unfold cntT
    rw [cnt_far n (by omega)]
    have : putT tx p t n = tx n := by unfold putT; rw [if_neg (by omega)]
    rw [this]
theorem cnt_put {tx : Nat → Option ByteArray} {p : Nat} (hp : tx p = none) (t : ByteArray) : ∀ n, p < n → cntT (putT tx p t) n = cntT tx n + 1
  | 0, h => by omega
  | n + 1, h => by
    unfold cntT
    by_cases hn : n = p
    · subst hn
      rw [cnt_far n (Nat.le_refl _), hp]
      have : putT tx n t n = some t := by unfold putT; rw [if_pos rfl]
      rw [this]
      rfl
    · rw [cnt_put hp t n (by omega)]
      have : putT tx p t n = tx n := by unfold putT; rw [if_neg hn]
      rw [this]
      omega
end Go.Proofs.YtmlnhjfdhjachaaGreat

/-
  The examples of the law of finding (layer 23). No condition.
-/
namespace Go.Proofs.YtmlnhjfdhjachaaGreat
set_option linter.unusedVariables false
open Go.ChangeShapes Go.WideShapes Go.ChangeAt Go.RowKit
open Go.ChangeMaps (setBlock)

theorem tinyVal : tinyC.val = .agg #[.int .i64 2, .int .i64 2, .int .i64 3, .int .i64 2, .int .i64 1, .int .u64 0] := rfl
def noCfg : PCfg := ⟨0, 0, 0, 0, 0, 0⟩
theorem noCfgVal : noCfg.val = .agg #[.int .i64 0, .int .i64 0, .int .i64 0, .int .i64 0, .int .i64 0, .int .u64 0] := rfl
def keyK : ByteArray := ⟨#[107]⟩
end Go.Proofs.YtmlnhjfdhjachaaGreat

/-
  Looking for a key's shelf alone; putting a key on it (layer 23). No condition.
-/
namespace Go.Proofs.YtmlnhjfdhjachaaGreat
set_option linter.unusedVariables false
open Go.ChangeShapes Go.WideShapes Go.ChangeAt Go.RowKit
open Go.ChangeMaps (setBlock)

/-- What looking alone leaves. -/
structure Looked (w0 w : World) (hb : Nat) (S : PHeap) (F : Nat → Prop) (b : Nat) (L : Int × Int × Nat) (s : PFind) (F' : Nat → Prop) (w' : World) : Prop where
  own : Own w0 hb S F' w'
  lies : FindIn w' b s
  res : s.result = ((L.1, L.2.1), true)
  off : ¬ F' b
  sub : ∀ k, F' k → F k ∨ k = b ∨ w.heap.size ≤ k
  chg : Chg (fun k => F k ∨ k = b) w w'
theorem falone {c : PCfg} (hc : c.Right) {key : ByteArray} {w0 w : World} {hb b : Nat} {S : PHeap} {F : Nat → Prop} {tx : Nat → Option ByteArray} (o : Own w0 hb S F w) (hN : FindIn w b (newFind c key)) (hnF : ¬ F b) (hb0 : w0.heap.size ≤ b) (hS : Shelved S c tx) (hf : S.faults = 0) (hl : S.last ≤ 1000) :
    Calls Tryz.prog 20 #[.pointer (some ⟨hb, 0, none⟩), .iface 117 (.pointer (some ⟨b, 0, none⟩)), .int .i64 1000] w fun e w' => ∃ s F', e = .returned (.tuple #[.int .i64 ((lookP key (plN c key) tx c.shelves.toNat 0).2.2 : Nat), .bool true]) ∧ Looked w0 w hb S F b (lookP key (plN c key) tx c.shelves.toNat 0) s F' w' := by
  have hsh := hc.shelves
  refine (alone_own findRout o (findR_fresh hN) (fun k h1 h2 => hnF (h2 ▸ h1)) (fun k hk => by rw [hk]; exact hb0) (by rw [hf]; decide) (by omega) 1000 (by decide)).mono fun e w' ⟨xs, S', s', F', D', hRun, hstop, _, he, o', hR', hsub, hch, hoff⟩ => ?_
  obtain ⟨hn, hS', ha, hr⟩ := find_alone hc hS hRun hstop (by omega)
  subst hS'
  refine ⟨s', F', ?_, o', hR'.2.2, hr, fun h => hoff b h hR'.2.1, fun k hk => ?_, hch⟩
  · rw [he, hn, show (!(findRout.act s').2) = true from by show (!(PFind.act s').2) = true; rw [ha]; rfl]
  · rcases hsub k (.inl hk) with h | h | h
    · exact .inl h
    · exact .inr (.inl h)
    · exact .inr (.inr h)
/-- What is asked of the places behind a look: they are as they were. -/
theorem Looked.keep {w0 w w' : World} {hb : Nat} {S : PHeap} {F F' : Nat → Prop} {b : Nat} {L : Int × Int × Nat} {s : PFind} (h : Looked w0 w hb S F b L s F' w') {k : Nat} (hk : k < w.heap.size) (hF : ¬ F k) (hb' : k ≠ b) : w'.heap[k]? = w.heap[k]? ∧ ¬ F' k :=
  ⟨h.chg.block k hk (fun h => h.elim hF hb'), fun h1 => by rcases h.sub k h1 with h2 | h2 | h2 <;> first | exact hF h2 | exact hb' h2 | omega⟩
theorem cell_of {w w' : World} {g : Nat} (h : w'.heap[g]? = w.heap[g]?) {j : Nat} {u : Value} (hc : w.cell? ⟨g, j, none⟩ = some u) : w'.cell? ⟨g, j, none⟩ = some u := (World.cell?_of_block (a := ⟨g, j, none⟩) h).trans hc
theorem make_more {w : World} {hb : Nat} {S : PHeap} {F : Nat → Prop} (h : HeapIn w hb S F) (s : ByteArray) (hl : S.last ≤ 1000) :
    Calls Tryz.prog 58 #[.pointer (some ⟨hb, 0, none⟩), .int .i64 0, .string s] w fun e w' => e = .returned (.int .u64 (S.last + 1)) ∧ ∃ r, Turned F hb (S.more r s) w w' :=
  make_any h 0 (by decide) s (by omega)
/-- A heap of the call's own, and some blocks that it leaves alone. -/
structure OwnK (w0 : World) (hb : Nat) (S : PHeap) (F : Nat → Prop) (K : List (Nat × Obj)) (w : World) : Prop where
  own : Own w0 hb S F w
  keep : ∀ x ∈ K, w.heap[x.1]? = some x.2 ∧ ¬ F x.1
theorem OwnK.lt {w0 w : World} {hb : Nat} {S : PHeap} {F : Nat → Prop} {K : List (Nat × Obj)} (h : OwnK w0 hb S F K w) {x : Nat × Obj} (hx : x ∈ K) : x.1 < w.heap.size := (Array.getElem?_eq_some_iff.1 (h.keep x hx).1).1
theorem OwnK.below {w0 w w' : World} {hb : Nat} {S : PHeap} {F : Nat → Prop} {K : List (Nat × Obj)} (h : OwnK w0 hb S F K w) (hb' : Below w.heap.size w w') : OwnK w0 hb S F K w' :=
  ⟨h.own.keep hb', fun x hx => ⟨(hb'.block _ (h.lt hx)).trans (h.keep x hx).1, (h.keep x hx).2⟩⟩
theorem OwnK.turned {w0 w w' : World} {hb : Nat} {S S' : PHeap} {F : Nat → Prop} {K : List (Nat × Obj)} (h : OwnK w0 hb S F K w) (t : Turned F hb S' w w') : OwnK w0 hb S' (nw F w w') K w' :=
  ⟨h.own.turned t, fun x hx => ⟨(t.2.block _ (h.lt hx) (h.keep x hx).2).trans (h.keep x hx).1, fun hn => by
    rcases hn with hn | hn
    · exact (h.keep x hx).2 hn
    · have := h.lt hx; omega⟩⟩
theorem OwnK.looked {w0 w w' : World} {hb b : Nat} {S : PHeap} {F F' : Nat → Prop} {K : List (Nat × Obj)} {L : Int × Int × Nat} {s : PFind} (h : OwnK w0 hb S F K w) (hl : Looked w0 w hb S F b L s F' w') (hK : ∀ x ∈ K, x.1 ≠ b) : OwnK w0 hb S F' K w' :=
  ⟨hl.own, fun x hx => by
    have := hl.keep (h.lt hx) (h.keep x hx).2 (hK x hx)
    exact ⟨this.1.trans (h.keep x hx).1, this.2⟩⟩
/-- One block more that it leaves alone. -/
theorem OwnK.add {w0 w : World} {hb : Nat} {S : PHeap} {F : Nat → Prop} {K : List (Nat × Obj)} (h : OwnK w0 hb S F K w) (o : Obj) : OwnK w0 hb S F ((w.heap.size, o) :: K) (w.alloc o) := by
  have h1 := h.below (Below.more_ (Below.refl _ _) o)
  refine ⟨h1.own, fun x hx => ?_⟩
  rcases List.mem_cons.1 hx with rfl | hx
  · refine ⟨heap_alloc_new w o, fun hF => ?_⟩
    have := h.own.heap.own _ hF
    omega
  · exact h1.keep x hx
/-- One block less. -/
theorem OwnK.less {w0 w : World} {hb : Nat} {S : PHeap} {F : Nat → Prop} {K : List (Nat × Obj)} {x : Nat × Obj} (h : OwnK w0 hb S F (x :: K) w) : OwnK w0 hb S F K w := ⟨h.own, fun y hy => h.keep y (List.mem_cons_of_mem _ hy)⟩
theorem OwnK.drewN {w0 w : World} {hb : Nat} {S : PHeap} {F : Nat → Prop} {K : List (Nat × Obj)} (h : OwnK w0 hb S F K w) (n : Nat) : OwnK w0 hb S F K (w.drewN n) := h.below (below_drewN (Below.refl _ _) n)
theorem OwnK.drew {w0 w : World} {hb : Nat} {S : PHeap} {F : Nat → Prop} {K : List (Nat × Obj)} (h : OwnK w0 hb S F K w) : OwnK w0 hb S F K w.drew := h.below (Below.refl _ _).drew
theorem OwnK.blk {w0 w : World} {hb : Nat} {S : PHeap} {F : Nat → Prop} {K : List (Nat × Obj)} (h : OwnK w0 hb S F K w) {b : Nat} {t : TypeId} {cs : Array Value} (hx : (b, Obj.cells cs t) ∈ K) : Blk w b t cs := (h.keep _ hx).1
end Go.Proofs.YtmlnhjfdhjachaaGreat
