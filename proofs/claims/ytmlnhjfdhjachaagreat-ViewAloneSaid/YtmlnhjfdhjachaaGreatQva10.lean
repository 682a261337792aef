import Derived.Deep.RegionWith
import Derived.Test.YtmlnhjfdhjachaaGreatQva9
/-
  Looking for a key's shelf (layer 23): the plain law. No condition.
-/
namespace Go.Proofs.YtmlnhjfdhjachaaGreat
set_option linter.unusedVariables false
open Go.ChangeShapes Go.WideShapes Go.ChangeAt Go.RowKit
open Go.ChangeMaps (setBlock)

def kcell (c : PCfg) (j : Nat) : Nat := (3 + c.pins + c.cap).toNat + 2 * j
theorem kcell_eq {c : PCfg} (h : c.Right) (j : Nat) : ((kcell c j : Nat) : Int) = 3 + c.pins + c.cap + 2 * j := by
  have := h.pins
  have := h.cap
  unfold kcell
  omega
/-- Which key stands on which shelf, and the blocks that have them. -/
structure Shelved (S : PHeap) (c : PCfg) (tx : Nat → Option ByteArray) : Prop where
  at_ : ∀ j : Nat, (j : Int) < c.shelves → ∃ v, CtlAt S (kcell c j) v ∧ (tx j = none → v = 0) ∧ (∀ t, tx j = some t → 2 ≤ v ∧ ∃ b, S.find v = some b ∧ b.text = t)
  keys : ∀ x ∈ S.blocks, x.key ≤ S.last
  one : 1 ≤ S.last
theorem field_shelved (c : PCfg) (hc : c.Right) (r : Nat) : Shelved (fieldS c r) c (fun _ => none) := by
  refine ⟨fun j hj => ⟨0, field_ctl c r (kcell c j) ?_, fun _ => rfl, fun t h => by cases h⟩, fun x hx => ?_, Int.le_refl _⟩
  · have h1 := kcell_eq hc j
    have h2 := (ctlSize_eq hc).1
    omega
  · simp [fieldS] at hx
    rw [hx]
    exact Int.le_refl _
/-- The heap with one block more. -/
def PHeap.more (S : PHeap) (r : Nat) (t : ByteArray) : PHeap := { S with blocks := S.blocks ++ [⟨S.last + 1, r, List.replicate 0 0, t⟩], last := S.last + 1 }
theorem more_find_old {S : PHeap} {b : Int} {x : PBlk} (h : S.find b = some x) (r : Nat) (t : ByteArray) : (S.more r t).find b = some x := by
  unfold PHeap.find PHeap.more at *
  rw [List.find?_append, h]
  rfl
theorem more_find_new {S : PHeap} (hk : ∀ x ∈ S.blocks, x.key ≤ S.last) (r : Nat) (t : ByteArray) : (S.more r t).find (S.last + 1) = some ⟨S.last + 1, r, List.replicate 0 0, t⟩ := by
  unfold PHeap.find PHeap.more
  rw [List.find?_append]
  have : S.blocks.find? (fun b => b.key == S.last + 1) = none := by
    rw [List.find?_eq_none]
    intro x hx
    have := hk x hx
    simp
    omega
  rw [this]
  simp
theorem CtlAt.more {S : PHeap} {i : Nat} {x : Int} (h : CtlAt S i x) (r : Nat) (t : ByteArray) : CtlAt (S.more r t) i x := by
  obtain ⟨b, h1, h2, h3⟩ := h
  exact ⟨b, more_find_old h1 r t, h2, h3⟩
def putT (tx : Nat → Option ByteArray) (p : Nat) (t : ByteArray) : Nat → Option ByteArray := fun j => if j = p then some t else tx j
theorem Shelved.put {S : PHeap} {c : PCfg} {tx : Nat → Option ByteArray} (h : Shelved S c tx) (p : Nat) (hp : (p : Int) < c.shelves) (r : Nat) (t : ByteArray) : Shelved ((S.more r t).set 1 (kcell c p) (S.last + 1)) c (putT tx p t) := by
  have h1 := h.one
  refine ⟨fun j hj => ?_, fun x hx => ?_, by show 1 ≤ S.last + 1; omega⟩
  · by_cases hjp : j = p
    · subst hjp
      obtain ⟨v, k1, _⟩ := h.at_ j hj
      refine ⟨S.last + 1, (k1.more r t).same _, fun k => by simp [putT] at k, fun t' k => ?_⟩
      have e : t = t' := by simpa [putT] using k
      subst e
      refine ⟨by omega, ⟨S.last + 1, r, List.replicate 0 0, t⟩, ?_, rfl⟩
      rw [find_other _ _ _ _ _ (by omega)]
      exact more_find_new h.keys r t
    · obtain ⟨v, k1, k2, k3⟩ := h.at_ j hj
      refine ⟨v, (k1.more r t).other _ (by unfold kcell; omega), fun k => k2 (by simpa [putT, hjp] using k), fun t' k => ?_⟩
      obtain ⟨k4, b, k5, k6⟩ := k3 t' (by simpa [putT, hjp] using k)
      refine ⟨k4, b, ?_, k6⟩
      rw [find_other _ _ _ _ _ (by omega)]
      exact more_find_old k5 r t
  · obtain ⟨y, hy, rfl⟩ := List.mem_map.1 hx
    have hk : y.key ≤ S.last + 1 := by
      rcases List.mem_append.1 hy with hy | hy
      · have := h.keys y hy
        omega
      · simp at hy
        rw [hy]
        exact Int.le_refl _
    show (if y.key = 1 then ({ y with cells := y.cells.set (kcell c p) (S.last + 1) } : PBlk) else y).key ≤ S.last + 1
    split <;> exact hk
/-- What is found, where, and in how many acts: from the k-th place on. -/
def lookP (key : ByteArray) (pl : Nat → Nat) (tx : Nat → Option ByteArray) : Nat → Nat → Int × Int × Nat
  | 0, _ => (3, 0, 0)
  | d + 1, k => match tx (pl k) with
    | none => (2, (pl k : Nat), 1)
    | some t => if t = key then (1, (pl k : Nat), 2) else ((lookP key pl tx d (k + 1)).1, (lookP key pl tx d (k + 1)).2.1, (lookP key pl tx d (k + 1)).2.2 + 2)
def plN (c : PCfg) (key : ByteArray) (i : Nat) : Nat := (placeP (sumP c.seed key) c.shelves i).toNat
theorem plN_eq {c : PCfg} (h : c.Right) (key : ByteArray) (i : Nat) : placeP (sumP c.seed key) c.shelves i = (plN c key i : Nat) ∧ ((plN c key i : Nat) : Int) < c.shelves := by
  have := placeP_ok (sumP c.seed key) c.shelves i h.shelves.1
  unfold plN
  omega
theorem right_words (b : Int) : PAct.right ⟨6, b, 0, 0, 0, ByteArray.empty⟩ = true := by simp [PAct.right, PAct.fit]
theorem act_words {S : PHeap} {b : Int} {x : PBlk} (h : S.find b = some x) (r : Nat) : S.act ⟨6, b, 0, 0, 0, ByteArray.empty⟩ r = (⟨0, x.text⟩, S) := by
  simp [PHeap.act, right_words, PHeap.words, h]
theorem ready_words (S : PHeap) (b : Int) : S.ready ⟨6, b, 0, 0, 0, ByteArray.empty⟩ = true := by simp [PHeap.ready, right_words]
theorem runs_end {c : PCfg} {key : ByteArray} {k : Nat} {b kd sh : Int} (hk : kd ≠ 0) {S S' : PHeap} {s' : PFind} {xs : List (PAct × PGot)} (h : Runs findRout S (findEnd c key k b kd sh) xs S' s') : xs = [] ∧ S' = S ∧ s' = findEnd c key k b kd sh := by
  match xs, h with
  | [], h => exact ⟨rfl, h.1.symm, h.2.symm⟩
  | y :: l, h =>
    obtain ⟨h1, _⟩ := h
    have : findRout.can S (findEnd c key k b kd sh) = false := by
      show ((PFind.act _).2 && _) = false
      rw [findEnd_act _ _ _ _ _ _ hk]
      rfl
    rw [this] at h1
    cases h1
def FoundP (c : PCfg) (key : ByteArray) (L : Int × Int × Nat) (S S' : PHeap) (s' : PFind) (n : Nat) : Prop :=
  n = L.2.2 ∧ S' = S ∧ s'.act = (noAct, false) ∧ s'.result = ((L.1, L.2.1), true)
theorem find_run {c : PCfg} (hc : c.Right) {key : ByteArray} {S : PHeap} {tx : Nat → Option ByteArray} (hS : Shelved S c tx) : ∀ (d k : Nat) {S' : PHeap} {s' : PFind} {xs : List (PAct × PGot)} {m : Int}, (d : Int) = c.shelves - k → 0 < d →
    Runs findRout S (findAt c key k 0) xs S' s' → (m ≤ (xs.length : Nat) ∨ findRout.can S' s' = false) → 2 * (d : Int) + 1 ≤ m → FoundP c key (lookP key (plN c key) tx d k) S S' s' xs.length
  | 0, k, S', s', xs, m, hd, h0, h, hst, hm => by omega
  | d + 1, k, S', s', xs, m, hd, h0, h, hst, hm => by
    obtain ⟨hpl, hpl2⟩ := plN_eq hc key k
    have ha := findAt_act0 c key k
    rw [hpl, ← kcell_eq hc] at ha
    obtain ⟨v, hv, hv0, hv1⟩ := hS.at_ (plN c key k) hpl2
    have hend : ∀ (S1 S2 : PHeap) (s2 : PFind) (l : List (PAct × PGot)) (j : Nat) (b kd sh : Int), kd ≠ 0 → Runs findRout S1 (findEnd c key j b kd sh) l S2 s2 → l = [] ∧ S2 = S1 ∧ s2.act = (noAct, false) ∧ s2.result = ((kd, sh), true) := fun S1 S2 s2 l j b kd sh hk hr => by
      obtain ⟨e1, e2, e3⟩ := runs_end hk hr
      subst e3
      exact ⟨e1, e2, findEnd_act _ _ _ _ _ _ hk, findEnd_result _ _ _ _ _ _ hk⟩
    match xs, h with
    | [], h =>
      obtain ⟨rfl, rfl⟩ := h
      rcases hst with h1 | h1
      · simp at h1; omega
      · have : findRout.can S (findAt c key k 0) = true := by
          show ((PFind.act _).2 && _) = true
          rw [show (findRout.act (findAt c key k 0)) = (findAt c key k 0).act from rfl, ha]
          exact ready_load S _
        rw [this] at h1
        cases h1
    | y :: l, h =>
      obtain ⟨_, r, _, h⟩ := h
      have hld : S.act (findRout.act (findAt c key k 0)).1 r = (⟨v, ByteArray.empty⟩, S) := by
        show S.act (findAt c key k 0).act.1 r = _
        rw [ha]
        exact hv.load r
      rw [hld] at h
      have htk : findRout.take (findAt c key k 0) ⟨v, ByteArray.empty⟩ = if v = 0 then findEnd c key k 0 2 (plN c key k : Nat) else findAt c key k v := by
        show (findAt c key k 0).take _ = _
        rw [findAt_take0, hpl]
      rw [htk] at h
      unfold lookP
      cases htx : tx (plN c key k) with
      | none =>
        rw [if_pos (hv0 htx)] at h
        obtain ⟨e1, e2, e3, e4⟩ := hend _ _ _ _ _ _ _ _ (by decide) h
        subst e1
        exact ⟨rfl, e2, e3, e4⟩
      | some t =>
        obtain ⟨hv2, b, hb1, hb2⟩ := hv1 t htx
        have hvn : v ≠ 0 := by omega
        rw [if_neg hvn] at h
        have ha1 := findAt_act c key k v hvn
        match l, h with
        | [], h =>
          obtain ⟨rfl, rfl⟩ := h
          rcases hst with h1 | h1
          · simp at h1; omega
          · have : findRout.can S (findAt c key k v) = true := by
              show ((PFind.act _).2 && _) = true
              rw [show (findRout.act (findAt c key k v)) = (findAt c key k v).act from rfl, ha1]
              exact ready_words S _
            rw [this] at h1
            cases h1
        | z :: l, h =>
          obtain ⟨_, r2, _, h⟩ := h
          have hwd : S.act (findRout.act (findAt c key k v)).1 r2 = (⟨0, t⟩, S) := by
            show S.act (findAt c key k v).act.1 r2 = _
            rw [ha1, act_words hb1, hb2]
          rw [hwd] at h
          have htk1 : findRout.take (findAt c key k v) ⟨0, t⟩ = if t = key then findEnd c key k v 1 (plN c key k : Nat) else if (k : Int) + 1 = c.shelves then findEnd c key (k + 1) 0 3 0 else findAt c key (k + 1) 0 := by
            show (findAt c key k v).take _ = _
            rw [findAt_take _ _ _ _ hvn, hpl]
          rw [htk1] at h
          by_cases htk : t = key
          · rw [if_pos htk] at h
            obtain ⟨e1, e2, e3, e4⟩ := hend _ _ _ _ _ _ _ _ (by decide) h
            subst e1
            simp only [htk, if_true]
            exact ⟨rfl, e2, e3, e4⟩
          · rw [if_neg htk] at h
            simp only [htk, if_false]
            by_cases hke : (k : Int) + 1 = c.shelves
            · rw [if_pos hke] at h
              obtain ⟨e1, e2, e3, e4⟩ := hend _ _ _ _ _ _ _ _ (by decide) h
              subst e1
              obtain rfl : d = 0 := by omega
              exact ⟨rfl, e2, e3, e4⟩
            · rw [if_neg hke] at h
              have hst2 : m - 2 ≤ (l.length : Nat) ∨ findRout.can S' s' = false := by
                rcases hst with h1 | h1
                · left; simp only [List.length_cons] at h1; omega
                · exact .inr h1
              obtain ⟨k1, k2, k3, k4⟩ := find_run hc hS d (k + 1) (m := m - 2) (by omega) (by omega) h hst2 (by omega)
              exact ⟨by simp only [List.length_cons]; omega, k2, k3, k4⟩
theorem find_alone {c : PCfg} (hc : c.Right) {key : ByteArray} {S S' : PHeap} {s' : PFind} {xs : List (PAct × PGot)} {m : Int} {tx : Nat → Option ByteArray} (hS : Shelved S c tx) (h : Runs findRout S (newFind c key) xs S' s') (hst : m ≤ (xs.length : Nat) ∨ findRout.can S' s' = false) (hm : 2 * c.shelves + 1 ≤ m) :
    FoundP c key (lookP key (plN c key) tx c.shelves.toNat 0) S S' s' xs.length := by
  have := hc.shelves
  rw [newFind_at c hc] at h
  exact find_run hc hS c.shelves.toNat 0 (by omega) (by omega) h hst (by omega)
/-- What is on a shelf stays. -/
def ExtT (tx tx' : Nat → Option ByteArray) : Prop := ∀ j t, tx j = some t → tx' j = some t
theorem put_ext {tx : Nat → Option ByteArray} {p : Nat} (hp : tx p = none) (t : ByteArray) : ExtT tx (putT tx p t) := fun j t' h => by
  unfold putT
  by_cases hj : j = p
  · subst hj
    rw [hp] at h
    cases h
  · rw [if_neg hj]
    exact h
theorem look_ext {key : ByteArray} {pl : Nat → Nat} {tx tx' : Nat → Option ByteArray} (he : ExtT tx tx') : ∀ (d k : Nat), (lookP key pl tx d k).1 ≠ 2 → lookP key pl tx' d k = lookP key pl tx d k
  | 0, k, h => rfl
  | d + 1, k, h => by
    unfold lookP at h ⊢
    cases htx : tx (pl k) with
    | none => rw [htx] at h; exact absurd rfl h
    | some t =>
      rw [htx] at h
      rw [he _ _ htx]
      by_cases htk : t = key
      · simp only [htk, if_true]
      · simp only [htk, if_false] at h ⊢
        rw [look_ext he d (k + 1) h]
theorem look_put {key : ByteArray} {pl : Nat → Nat} {tx : Nat → Option ByteArray} : ∀ (d k : Nat), (lookP key pl tx d k).1 = 2 → ∃ p : Nat, (lookP key pl tx d k).2.1 = p ∧ tx p = none ∧ (∃ i, p = pl i) ∧ lookP key pl (putT tx p key) d k = (1, (p : Int), (lookP key pl tx d k).2.2 + 1)
  | 0, k, h => by cases h
  | d + 1, k, h => by
    unfold lookP at h ⊢
    cases htx : tx (pl k) with
    | none =>
      refine ⟨pl k, rfl, htx, ⟨k, rfl⟩, ?_⟩
      simp [putT]
    | some t =>
      rw [htx] at h
      by_cases htk : t = key
      · simp only [htk, if_true] at h
        cases h
      · simp only [htk, if_false] at h ⊢
        obtain ⟨p, h1, h2, h3, h4⟩ := look_put d (k + 1) h
        refine ⟨p, h1, h2, h3, ?_⟩
        have hne : pl k ≠ p := fun e => by rw [e, h2] at htx; cases htx
        have e : putT tx p key (pl k) = some t := by unfold putT; rw [if_neg hne, htx]
        rw [e]
        simp only [htk, if_false]
        rw [h4]
theorem look_kind {key : ByteArray} {pl : Nat → Nat} {tx : Nat → Option ByteArray} : ∀ (d k : Nat), ((lookP key pl tx d k).1 = 1 ∧ ∃ p : Nat, (lookP key pl tx d k).2.1 = p ∧ tx p = some key ∧ ∃ i, p = pl i) ∨ (lookP key pl tx d k).1 = 2 ∨ ((lookP key pl tx d k).1 = 3 ∧ (lookP key pl tx d k).2.1 = 0 ∧ ∀ i, i < d → ∃ t, tx (pl (k + i)) = some t)
  | 0, k => .inr (.inr ⟨rfl, rfl, fun i h => by omega⟩)
  | d + 1, k => by
    unfold lookP
    cases htx : tx (pl k) with
    | none => exact .inr (.inl rfl)
    | some t =>
      by_cases htk : t = key
      · simp only [htk, if_true]
        rw [htk] at htx
        exact .inl ⟨trivial, pl k, rfl, htx, k, rfl⟩
      · simp only [htk, if_false]
        rcases look_kind (key := key) (pl := pl) (tx := tx) d (k + 1) with h | h | ⟨h1, h2, h3⟩
        · exact .inl h
        · exact .inr (.inl h)
        · refine .inr (.inr ⟨h1, h2, fun i hi => ?_⟩)
          cases i with
          | zero => exact ⟨t, htx⟩
          | succ i =>
            have := h3 i (by omega)
            rwa [show k + 1 + i = k + (i + 1) by omega] at this
end Go.Proofs.YtmlnhjfdhjachaaGreat

/-
  The examples of the law of finding (layer 23). No condition.
-/
namespace Go.Proofs.YtmlnhjfdhjachaaGreat
set_option linter.unusedVariables false
open Go.ChangeShapes Go.WideShapes Go.ChangeAt Go.RowKit
open Go.ChangeMaps (setBlock)

end Go.Proofs.YtmlnhjfdhjachaaGreat

/-
  Looking for a key's shelf alone; putting a key on it (layer 23). No condition.
-/
namespace Go.Proofs.YtmlnhjfdhjachaaGreat
set_option linter.unusedVariables false
open Go.ChangeShapes Go.WideShapes Go.ChangeAt Go.RowKit
open Go.ChangeMaps (setBlock)

/-- What looking alone leaves. -/
structure Looked (w0 w : World) (hb : Nat) (S : PHeap) (F : Nat → Prop) (b : Nat) (L : Int × Int × Nat) (s : PFind) (F' : Nat → Prop) (w' : World) : Prop where
  own : Own w0 hb S F' w'
  lies : FindIn w' b s
  res : s.result = ((L.1, L.2.1), true)
  off : ¬ F' b
  sub : ∀ k, F' k → F k ∨ k = b ∨ w.heap.size ≤ k
  chg : Chg (fun k => F k ∨ k = b) w w'
theorem falone {c : PCfg} (hc : c.Right) {key : ByteArray} {w0 w : World} {hb b : Nat} {S : PHeap} {F : Nat → Prop} {tx : Nat → Option ByteArray} (o : Own w0 hb S F w) (hN : FindIn w b (newFind c key)) (hnF : ¬ F b) (hb0 : w0.heap.size ≤ b) (hS : Shelved S c tx) (hf : S.faults = 0) (hl : S.last ≤ 1000) :
    Calls Tryz.prog 20 #[.pointer (some ⟨hb, 0, none⟩), .iface 117 (.pointer (some ⟨b, 0, none⟩)), .int .i64 1000] w fun e w' => ∃ s F', e = .returned (.tuple #[.int .i64 ((lookP key (plN c key) tx c.shelves.toNat 0).2.2 : Nat), .bool true]) ∧ Looked w0 w hb S F b (lookP key (plN c key) tx c.shelves.toNat 0) s F' w' := by
  have hsh := hc.shelves
  refine (alone_own findRout o (findR_fresh hN) (fun k h1 h2 => hnF (h2 ▸ h1)) (fun k hk => by rw [hk]; exact hb0) (by rw [hf]; decide) (by omega) 1000 (by decide)).mono fun e w' ⟨xs, S', s', F', D', hRun, hstop, _, he, o', hR', hsub, hch, hoff⟩ => ?_
  obtain ⟨hn, hS', ha, hr⟩ := find_alone hc hS hRun hstop (by omega)
  subst hS'
  refine ⟨s', F', ?_, o', hR'.2.2, hr, fun h => hoff b h hR'.2.1, fun k hk => ?_, hch⟩
  · rw [he, hn, show (!(findRout.act s').2) = true from by show (!(PFind.act s').2) = true; rw [ha]; rfl]
  · rcases hsub k (.inl hk) with h | h | h
    · exact .inl h
    · exact .inr (.inl h)
    · exact .inr (.inr h)
/-- What is asked of the places behind a look: they are as they were. -/
theorem Looked.keep {w0 w w' : World} {hb : Nat} {S : PHeap} {F F' : Nat → Prop} {b : Nat} {L : Int × Int × Nat} {s : PFind} (h : Looked w0 w hb S F b L s F' w') {k : Nat} (hk : k < w.heap.size) (hF : ¬ F k) (hb' : k ≠ b) : w'.heap[k]? = w.heap[k]? ∧ ¬ F' k :=
  ⟨h.chg.block k hk (fun h => h.elim hF hb'), fun h1 => by rcases h.sub k h1 with h2 | h2 | h2 <;> first | exact hF h2 | exact hb' h2 | omega⟩
theorem make_more {w : World} {hb : Nat} {S : PHeap} {F : Nat → Prop} (h : HeapIn w hb S F) (s : ByteArray) (hl : S.last ≤ 1000) :
    Calls Tryz.prog 58 #[.pointer (some ⟨hb, 0, none⟩), .int .i64 0, .string s] w fun e w' => e = .returned (.int .u64 (S.last + 1)) ∧ ∃ r, Turned F hb (S.more r s) w w' :=
  make_any h 0 (by decide) s (by omega)
/-- A heap of the call's own, and some blocks that it leaves alone. -/
structure OwnK (w0 : World) (hb : Nat) (S : PHeap) (F : Nat → Prop) (K : List (Nat × Obj)) (w : World) : Prop where
  own : Own w0 hb S F w
  keep : ∀ x ∈ K, w.heap[x.1]? = some x.2 ∧ ¬ F x.1
theorem OwnK.lt {w0 w : World} {hb : Nat} {S : PHeap} {F : Nat → Prop} {K : List (Nat × Obj)} (h : OwnK w0 hb S F K w) {x : Nat × Obj} (hx : x ∈ K) : x.1 < w.heap.size := (Array.getElem?_eq_some_iff.1 (h.keep x hx).1).1
theorem OwnK.below {w0 w w' : World} {hb : Nat} {S : PHeap} {F : Nat → Prop} {K : List (Nat × Obj)} (h : OwnK w0 hb S F K w) (hb' : Below w.heap.size w w') : OwnK w0 hb S F K w' :=
  ⟨h.own.keep hb', fun x hx => ⟨(hb'.block _ (h.lt hx)).trans (h.keep x hx).1, (h.keep x hx).2⟩⟩
theorem OwnK.turned {w0 w w' : World} {hb : Nat} {S S' : PHeap} {F : Nat → Prop} {K : List (Nat × Obj)} (h : OwnK w0 hb S F K w) (t : Turned F hb S' w w') : OwnK w0 hb S' (nw F w w') K w' :=
  ⟨h.own.turned t, fun x hx => ⟨(t.2.block _ (h.lt hx) (h.keep x hx).2).trans (h.keep x hx).1, fun hn => by
    rcases hn with hn | hn
    · exact (h.keep x hx).2 hn
    · have := h.lt hx; omega⟩⟩
theorem OwnK.looked {w0 w w' : World} {hb b : Nat} {S : PHeap} {F F' : Nat → Prop} {K : List (Nat × Obj)} {L : Int × Int × Nat} {s : PFind} (h : OwnK w0 hb S F K w) (hl : Looked w0 w hb S F b L s F' w') (hK : ∀ x ∈ K, x.1 ≠ b) : OwnK w0 hb S F' K w' :=
  ⟨hl.own, fun x hx => by
    have := hl.keep (h.lt hx) (h.keep x hx).2 (hK x hx)
    exact ⟨this.1.trans (h.keep x hx).1, this.2⟩⟩
/-- One block more that it leaves alone. -/
theorem OwnK.add {w0 w : World} {hb : Nat} {S : PHeap} {F : Nat → Prop} {K : List (Nat × Obj)} (h : OwnK w0 hb S F K w) (o : Obj) : OwnK w0 hb S F ((w.heap.size, o) :: K) (w.alloc o) := by
  have h1 := h.below (Below.more_ (Below.refl _ _) o)
  refine ⟨h1.own, fun x hx => ?_⟩
  rcases List.mem_cons.1 hx with rfl | hx
  · refine ⟨heap_alloc_new w o, fun hF => ?_⟩
    have := h.own.heap.own _ hF
    omega
  · exact h1.keep x hx
/-- One block less. -/
theorem OwnK.less {w0 w : World} {hb : Nat} {S : PHeap} {F : Nat → Prop} {K : List (Nat × Obj)} {x : Nat × Obj} (h : OwnK w0 hb S F (x :: K) w) : OwnK w0 hb S F K w := ⟨h.own, fun y hy => h.keep y (List.mem_cons_of_mem _ hy)⟩
theorem OwnK.drewN {w0 w : World} {hb : Nat} {S : PHeap} {F : Nat → Prop} {K : List (Nat × Obj)} (h : OwnK w0 hb S F K w) (n : Nat) : OwnK w0 hb S F K (w.drewN n) := h.below (below_drewN (Below.refl _ _) n)
theorem OwnK.drew {w0 w : World} {hb : Nat} {S : PHeap} {F : Nat → Prop} {K : List (Nat × Obj)} (h : OwnK w0 hb S F K w) : OwnK w0 hb S F K w.drew := h.below (Below.refl _ _).drew
theorem OwnK.blk {w0 w : World} {hb : Nat} {S : PHeap} {F : Nat → Prop} {K : List (Nat × Obj)} (h : OwnK w0 hb S F K w) {b : Nat} {t : TypeId} {cs : Array Value} (hx : (b, Obj.cells cs t) ∈ K) : Blk w b t cs := (h.keep _ hx).1
end Go.Proofs.YtmlnhjfdhjachaaGreat

/-
  Freeing a pin; pinning where there is none to pin (layer 25). No condition.
-/
namespace Go.Proofs.YtmlnhjfdhjachaaGreat
set_option linter.unusedVariables false
open Go.ChangeShapes Go.WideShapes Go.ChangeAt Go.RowKit
open Go.ChangeMaps (setBlock)

set_option maxHeartbeats 1000000 in
theorem free_any (c : PCfg) (h : c.Right) (i : Int) (hi : 0 ≤ i ∧ i < c.pins) (w : World) : Calls Tryz.prog 41 #[c.val, .int .i64 i] w fun e w' => e = .returned (.agg #[.int .i64 2, .int .u64 1, .int .i64 (3 + i), .int .u64 0, .int .u64 0, .string ⟨#[]⟩]) ∧ Below w.heap.size w w' := by
  have hP := fun W => planPin_any c h i hi W
  obtain ⟨a, b, s, q, t, z⟩ := c
  rw [show PCfg.val ⟨a, b, s, q, t, z⟩ = .agg #[.int .i64 a, .int .i64 b, .int .i64 s, .int .i64 q, .int .i64 t, .int .u64 z] from rfl] at *
  simp only at hi
  have d0 : decide (0 ≤ 3 + i) = true := by simp; omega
  have B1 := (Blk.new w 24 #[.int .i64 a, .int .i64 b, .int .i64 s, .int .i64 q, .int .i64 t, .int .u64 z]).alloc (.cells #[.int .i64 0, .int .u64 0, .int .i64 0, .int .u64 0, .int .u64 0, .string ⟨#[]⟩] 31)
  have R1 := Blk.new (w.alloc (.cells #[.int .i64 a, .int .i64 b, .int .i64 s, .int .i64 q, .int .i64 t, .int .u64 z] 24)) 31 #[.int .i64 0, .int .u64 0, .int .i64 0, .int .u64 0, .int .u64 0, .string ⟨#[]⟩]
  simp only [World.size_alloc] at R1
  have hz : Below w.heap.size w ((w.alloc (.cells #[.int .i64 a, .int .i64 b, .int .i64 s, .int .i64 q, .int .i64 t, .int .u64 z] 24)).alloc (.cells #[.int .i64 0, .int .u64 0, .int .i64 0, .int .u64 0, .int .u64 0, .string ⟨#[]⟩] 31)) := ((Below.refl _ _).alloc (Nat.le_refl _) _).alloc (by simp) _
  replace B1 := Lib.hid B1
  replace R1 := Lib.hid R1
  replace hz := Lib.hid hz
  replace hP := Lib.hid hP
  clear hi h
  go_enter Tryz.func41, Tryz.ntmps41
  go_wp2_with fail
  refine (hP.out _).mono ?_; rintro e w1 ⟨rfl, hb⟩
  have hz1 := nx hz.out (Nat.le_refl _) hb
  have R2 := R1.out.below hb (by simp)
  have f0 := R2.frozen 0
  have g0 := R2.cell 0
  have f1 := R2.frozen 1
  have g1 := R2.cell 1
  have f2 := R2.frozen 2
  have g2 := R2.cell 2
  have f3 := R2.frozen 3
  have g3 := R2.cell 3
  have f4 := R2.frozen 4
  have g4 := R2.cell 4
  have f5 := R2.frozen 5
  have g5 := R2.cell 5
  replace R2 := Lib.hid R2
  replace hz1 := Lib.hid hz1
  clear hb
  go_wp2_with fail
  refine gen_world (α := fun W' => bodyPost _ _ _ _ _ W') (fun W' => Blk W' (w.heap.size + 1) 31 #[.int .i64 2, .int .u64 1, .int .i64 (3 + i), .int .u64 0, .int .u64 0, .string ⟨#[]⟩] ∧ Below w.heap.size w W') ⟨?_, ?_⟩ ?_
  · exact Blk.eq_cs ((((((R2.out.set_ 0 _).set_ 1 _).set_ 2 _).set_ 3 _).set_ 4 _).set_ 5 _) rfl
  · repeat (refine Below.setCell ?_ (by show w.heap.size ≤ w.heap.size + 1; omega) _)
    exact hz1.out
  rintro W' ⟨q1, q2⟩
  have e0 := q1.cell 0
  have e1 := q1.cell 1
  have e2 := q1.cell 2
  have e3 := q1.cell 3
  have e4 := q1.cell 4
  have e5 := q1.cell 5
  exact bodyPost_ret (v := .agg #[.int .i64 2, .int .u64 1, .int .i64 (3 + i), .int .u64 0, .int .u64 0, .string ⟨#[]⟩]) (by simp [results, Tryz.results41, go_sem, e0, e1, e2, e3, e4, e5]) rfl ⟨rfl, q2⟩
end Go.Proofs.YtmlnhjfdhjachaaGreat

/-
  drive.Next on a heap of the call's own. No condition.
-/
namespace Go.Proofs.YtmlnhjfdhjachaaGreat
set_option linter.unusedVariables false
open Go.ChangeShapes Go.WideShapes Go.ChangeAt Go.RowKit
open Go.ChangeMaps (setBlock)

structure NextP {σ : Type} (Rt : Rout σ) (w0 w : World) (F D : Nat → Prop) (hb b : Nat) (S : PHeap) (s : σ) (S' : PHeap) (s' : σ) (F' D' : Nat → Prop) (is : Bool) (w' : World) : Prop where
  own : Own w0 hb S' F' w'
  rt : Rt.R w' D' b s'
  off : Off F' D'
  sub : ∀ k, F' k ∨ D' k → F k ∨ D k ∨ w.heap.size ≤ k
  chg : Chg (fun k => F k ∨ D k) w w'
  did : (is = false ∧ Rt.can S s = false ∧ S' = S ∧ s' = s) ∨ (is = true ∧ Rt.can S s = true ∧ ∃ r, S' = (S.act (Rt.act s).1 r).2 ∧ s' = Rt.take s (S.act (Rt.act s).1 r).1)
end Go.Proofs.YtmlnhjfdhjachaaGreat

/-
  A routine that lies in memory of the call's own. No condition.
-/
namespace Go.Proofs.YtmlnhjfdhjachaaGreat
set_option linter.unusedVariables false
open Go.ChangeShapes Go.WideShapes Go.ChangeAt Go.RowKit
open Go.ChangeMaps (setBlock)

section
variable {σ : Type} {Rt : Rout σ} {B b : Nat} {W W' : World} {s : σ}
def RAt (Rt : Rout σ) (B : Nat) (W : World) (b : Nat) (s : σ) : Prop := ∃ Q, Rt.R W Q b s ∧ ∀ k, Q k → B ≤ k
theorem RAt.far (h : RAt Rt B W b s) (hs : W.heap.size ≤ W'.heap.size) (hk : ∀ k, k < W.heap.size → W'.heap[k]? = W.heap[k]?) : RAt Rt B W' b s := by
  obtain ⟨Q, h1, h2⟩ := h
  exact ⟨Q, Rt.keep h1 hs fun k hk' => hk k (Rt.own h1 k hk'), h2⟩
theorem RAt.below (h : RAt Rt B W b s) (hb : Below W.heap.size W W') : RAt Rt B W' b s := h.far hb.size fun k hk => hb.block k hk
theorem RAt.lt (h : RAt Rt B W b s) : b < W.heap.size ∧ B ≤ b := by
  obtain ⟨Q, h1, h2⟩ := h
  exact ⟨Rt.own h1 _ (Rt.hG h1), h2 _ (Rt.hG h1)⟩
theorem RAt.act (h : RAt Rt B W b s) : Calls Tryz.prog Rt.fAct #[.pointer (some ⟨b, 0, none⟩)] W fun e w' => e = .returned (.tuple #[(Rt.act s).1.val, .bool (Rt.act s).2]) ∧ Below W.heap.size W w' := by
  obtain ⟨Q, h1, _⟩ := h
  exact Rt.cAct h1
theorem RAt.take (h : RAt Rt B W b s) (hB : B ≤ W.heap.size) (g : PGot) (hg : g.Ok) (hm : (Rt.act s).2 = true) : Calls Tryz.prog Rt.fTake #[.pointer (some ⟨b, 0, none⟩), g.val] W fun e w' => e = .returned (.tuple #[]) ∧ RAt Rt B w' b (Rt.take s g) ∧ Chg (fun k => B ≤ k) W w' := by
  obtain ⟨Q, h1, h2⟩ := h
  refine (Rt.cTake g h1 hg hm).mono ?_
  rintro e w' ⟨he, h3, h4⟩
  refine ⟨he, ⟨_, h3, fun k hk => ?_⟩, h4.mono h2⟩
  rcases hk with hk | hk
  · exact h2 k hk
  · omega
end
end Go.Proofs.YtmlnhjfdhjachaaGreat

/-
  Several threads, and how they lie in memory: for any kind of routine that is one block. No condition.
-/
namespace Go.Proofs.YtmlnhjfdhjachaaGreat
set_option linter.unusedVariables false
open Go.ChangeShapes Go.WideShapes Go.ChangeAt Go.RowKit
open Go.ChangeMaps (setBlock)

/-- A thing that lies in one block. -/
structure Lie (σ : Type) where
  T : TypeId
  L : World → Nat → σ → Prop
  lt : ∀ {w b s}, L w b s → b < w.heap.size
  keep : ∀ {w w' b s}, L w b s → w'.heap[b]? = w.heap[b]? → L w' b s
theorem Lie.below {σ : Type} (Y : Lie σ) {w w' : World} {b : Nat} {s : σ} (h : Y.L w b s) (hb : Below w.heap.size w w') : Y.L w' b s := Y.keep h (hb.block _ (Y.lt h))
def ptrsL (bs : List Nat) : List Value := bs.map fun b => .pointer (some ⟨b, 0, none⟩)
section
variable {σ : Type} {Y : Lie σ}
/-- The heap, the threads, and the row in which they stand. -/
structure Mob (Y : Lie σ) (w1 : World) (hb : Nat) (S : PHeap) (F : Nat → Prop) (bs : List Nat) (ss : Nat → σ) (v : Value) (wr : World) : Prop where
  own : Own w1 hb S F wr
  each : ∀ (j : Nat) b, bs[j]? = some b → Y.L wr b (ss j) ∧ ¬ F b ∧ w1.heap.size ≤ b
  nodup : bs.Nodup
  row : wr.ownsRow w1.heap.size Y.T 1 v bs.length (ptrsL bs)
  off : ∀ g, v.ownBlock = some g → ¬ F g ∧ g ∉ bs
theorem Mob.keep {w1 wr w' : World} {hb : Nat} {S : PHeap} {F : Nat → Prop} {bs : List Nat} {ss : Nat → σ} {v : Value} (h : Mob Y w1 hb S F bs ss v wr) (hb' : Below wr.heap.size wr w') : Mob Y w1 hb S F bs ss v w' :=
  ⟨h.own.keep hb', fun j b hj => ⟨Y.below (h.each j b hj).1 hb', (h.each j b hj).2⟩, h.nodup, ⟨h.row.1, h.row.2.imp id fun ⟨g, cap, cur, e1, e2, e3, r⟩ => ⟨g, cap, cur, e1, e2, (hb'.block g (Array.getElem?_eq_some_iff.1 e3).1).trans e3, r⟩⟩, h.off⟩
theorem Mob.cell {w1 wr : World} {hb : Nat} {S : PHeap} {F : Nat → Prop} {bs : List Nat} {ss : Nat → σ} {g cap j b : Nat} (h : Mob Y w1 hb S F bs ss (.slice (some ⟨g, 0, none⟩) bs.length cap) wr) (hj : bs[j]? = some b) : wr.cell? ⟨g, j, none⟩ = some (.pointer (some ⟨b, 0, none⟩)) := by
  have := h.row.cells (g := g) rfl j (.pointer (some ⟨b, 0, none⟩)) (by simp [ptrsL, hj])
  have e2 : (⟨g, 0, none⟩ : Addr).add j = ⟨g, j, none⟩ := by unfold Addr.add; split <;> simp_all
  rw [e2] at this
  exact this
/-- One thread has gone on. -/
theorem Mob.next {Rt : Rout σ} (hRL : ∀ w D b s, Rt.R w D b s → D b ∧ Y.L w b s) {w1 wr w' : World} {hb : Nat} {S S' : PHeap} {F F' D' : Nat → Prop} {bs : List Nat} {ss : Nat → σ} {v : Value} {j0 b0 : Nat} {s' : σ} {is : Bool} (h : Mob Y w1 hb S F bs ss v wr) (hj0 : bs[j0]? = some b0)
    (hP : NextP Rt w1 wr F (fun k => k = b0) hb b0 S (ss j0) S' s' F' D' is w') : Mob Y w1 hb S' F' bs (fun j => if j = j0 then s' else ss j) v w' := by
  obtain ⟨po, pr, pof, ps, pc, _⟩ := hP
  obtain ⟨pr1, pr2⟩ := hRL _ _ _ _ pr
  have inj : ∀ j b, bs[j]? = some b → j ≠ j0 → b ≠ b0 := by
    intro j b hj hne e
    subst e
    exact hne <| (List.getElem?_inj (List.getElem?_eq_some_iff.mp hj).1 h.nodup).1 (hj.trans hj0.symm)
  have keepB : ∀ k, k < wr.heap.size → ¬ F k → k ≠ b0 → w'.heap[k]? = wr.heap[k]? ∧ ¬ F' k := by
    intro k hk hF hne
    refine ⟨pc.block k hk (fun h => h.elim hF hne), fun hF' => ?_⟩
    rcases ps k (.inl hF') with h1 | h1 | h1
    · exact hF h1
    · exact hne h1
    · omega
  refine ⟨po, fun j b hj => ?_, h.nodup, ?_, fun g hg => ?_⟩
  · obtain ⟨e1, e2, e3⟩ := h.each j b hj
    by_cases hjj : j = j0
    · subst hjj
      have : b = b0 := by rw [hj] at hj0; injection hj0
      subst this
      rw [if_pos rfl]
      exact ⟨pr2, fun hF' => pof b hF' pr1, e3⟩
    · rw [if_neg hjj]
      obtain ⟨k1, k2⟩ := keepB b (Y.lt e1) e2 (inj j b hj hjj)
      exact ⟨Y.keep e1 k1, k2, e3⟩
  · refine ⟨h.row.1, h.row.2.imp id fun ⟨g, cap, cur, e1, e2, e3, r⟩ => ⟨g, cap, cur, e1, e2, ?_, r⟩⟩
    obtain ⟨k1, k2⟩ := h.off g (by rw [e1]; rfl)
    exact (keepB g (Array.getElem?_eq_some_iff.1 e3).1 k1 (fun e => k2 (e ▸ List.mem_of_getElem? hj0))).1.trans e3
  · obtain ⟨k1, k2⟩ := h.off g hg
    exact ⟨(keepB g (World.ownsRow.lt h.row g hg).2 k1 (fun e => k2 (e ▸ List.mem_of_getElem? hj0))).2, k2⟩
/-- The heap has turned by itself. -/
theorem Mob.turned {w1 wr w' : World} {hb : Nat} {S S' : PHeap} {F : Nat → Prop} {bs : List Nat} {ss : Nat → σ} {v : Value} (h : Mob Y w1 hb S F bs ss v wr) (t : Turned F hb S' wr w') : Mob Y w1 hb S' (nw F wr w') bs ss v w' := by
  have keepB : ∀ k, k < wr.heap.size → ¬ F k → w'.heap[k]? = wr.heap[k]? ∧ ¬ nw F wr w' k := by
    intro k hk hF
    refine ⟨t.2.block k hk hF, fun hF' => ?_⟩
    rcases hF' with h1 | h1
    · exact hF h1
    · omega
  refine ⟨h.own.turned t, fun j b hj => ?_, h.nodup, ?_, fun g hg => ?_⟩
  · obtain ⟨e1, e2, e3⟩ := h.each j b hj
    obtain ⟨k1, k2⟩ := keepB b (Y.lt e1) e2
    exact ⟨Y.keep e1 k1, k2, e3⟩
  · refine ⟨h.row.1, h.row.2.imp id fun ⟨g, cap, cur, e1, e2, e3, r⟩ => ⟨g, cap, cur, e1, e2, ?_, r⟩⟩
    exact (keepB g (Array.getElem?_eq_some_iff.1 e3).1 (h.off g (by rw [e1]; rfl)).1).1.trans e3
  · exact ⟨(keepB g (World.ownsRow.lt h.row g hg).2 (h.off g hg).1).2, (h.off g hg).2⟩
/-- One thread more. -/
theorem Mob.more {w1 wr w2 w' : World} {hb : Nat} {S : PHeap} {F : Nat → Prop} {bs : List Nat} {ss : Nat → σ} {v v' : Value} {b : Nat} {s : σ} (h : Mob Y w1 hb S F bs ss v wr) (hb2 : Below wr.heap.size wr w2) (hN : Y.L w2 b s) (hbb : wr.heap.size ≤ b)
    (hown : w'.ownsRow w1.heap.size Y.T 1 v' (bs.length + 1) (ptrsL (bs ++ [b]))) (hg : w2.grownBy w' v.ownBlock) (hloc : v'.ownBlock = v.ownBlock ∨ v'.ownBlock = some w2.heap.size) :
    Mob Y w1 hb S F (bs ++ [b]) (fun j => if j = bs.length then s else ss j) v' w' := by
  have h2 := h.keep hb2
  have hlt := h.own.heap.own
  have hlt2 := h2.own.heap.own
  have hs := hb2.size
  have hw := h.own.below.size
  have hFb : ¬ F b := fun hF => by have := hlt b hF; omega
  have inB : ∀ x ∈ bs, x < wr.heap.size := fun x hx => by
    obtain ⟨j, hj, rfl⟩ := List.getElem_of_mem hx
    exact Y.lt (h.each j _ (List.getElem?_eq_getElem hj)).1
  have vlt : ∀ g, v.ownBlock = some g → w1.heap.size ≤ g ∧ g < wr.heap.size := fun g hg => World.ownsRow.lt h.row g hg
  have keepB : ∀ k, k < w2.heap.size → some k ≠ v.ownBlock → w'.heap[k]? = w2.heap[k]? := fun k hk hne => hg.block k hk hne
  have hbl : b < w2.heap.size := Y.lt hN
  refine ⟨⟨h2.own.heap.keep hg.size fun k hk => keepB k (hlt2 k hk) (fun e => (h.off k e.symm).1 hk), h.own.new, ?_⟩, fun j b' hj => ?_, ?_, by rw [List.length_append]; exact hown, fun g hg' => ?_⟩
  · refine ⟨hg.os.trans h2.own.below.os, hg.tape.trans h2.own.below.tape, hg.output.trans h2.own.below.output, Nat.le_trans h2.own.below.size hg.size, fun k hk => (keepB k (Nat.lt_of_lt_of_le hk h2.own.below.size) fun e => ?_).trans (h2.own.below.block k hk)⟩
    have := (vlt k e.symm).1
    omega
  · rcases Nat.lt_or_ge j bs.length with hl | hl
    · rw [List.getElem?_append_left hl] at hj
      rw [if_neg (by omega)]
      obtain ⟨e1, e2, e3⟩ := h2.each j b' hj
      exact ⟨Y.keep e1 (keepB b' (Y.lt e1) fun e => (h.off b' e.symm).2 (List.mem_of_getElem? hj)), e2, e3⟩
    · rw [List.getElem?_append_right hl] at hj
      have hj0 : j = bs.length := by
        have := (List.getElem?_eq_some_iff.mp hj).1
        simp at this
        omega
      subst hj0
      simp at hj
      subst hj
      rw [if_pos rfl]
      exact ⟨Y.keep hN (keepB b hbl fun e => by have := (vlt b e.symm).2; omega), hFb, by omega⟩
  · rw [List.nodup_append]
    refine ⟨h.nodup, by simp, fun a ha b' hb' e => ?_⟩
    simp at hb'
    subst hb'
    have := inB a ha
    omega
  · rcases hloc with e | e
    · rw [e] at hg'
      refine ⟨(h.off g hg').1, fun hm => ?_⟩
      rcases List.mem_append.1 hm with hm | hm
      · exact (h.off g hg').2 hm
      · simp at hm
        have := (vlt g hg').2
        omega
    · rw [e] at hg'
      injection hg' with hg'
      refine ⟨fun hF => by have := hlt g hF; omega, fun hm => ?_⟩
      rcases List.mem_append.1 hm with hm | hm
      · have := inB g hm; omega
      · simp at hm
        omega
end
end Go.Proofs.YtmlnhjfdhjachaaGreat

/-
  Several threads, each with memory of its own: how they lie in memory. No condition.
-/
namespace Go.Proofs.YtmlnhjfdhjachaaGreat
set_option linter.unusedVariables false
open Go.ChangeShapes Go.WideShapes Go.ChangeAt Go.RowKit
open Go.ChangeMaps (setBlock)

section
variable {σ : Type} {Rt : Rout σ}
/-- The heap, the threads, and the row in which they stand. -/
structure Crew (Rt : Rout σ) (w1 : World) (hb : Nat) (S : PHeap) (F : Nat → Prop) (bs : List Nat) (ss : Nat → σ) (v : Value) (D : Nat → Nat → Prop) (wr : World) : Prop where
  own : Own w1 hb S F wr
  each : ∀ (j : Nat) b, bs[j]? = some b → Rt.R wr (D j) b (ss j) ∧ Off F (D j) ∧ ∀ k, D j k → w1.heap.size ≤ k
  apart : ∀ i j, i < bs.length → j < bs.length → i ≠ j → Off (D i) (D j)
  row : wr.ownsRow w1.heap.size Rt.T 1 v bs.length (ptrsL bs)
  off : ∀ g, v.ownBlock = some g → ¬ F g ∧ ∀ j, j < bs.length → ¬ D j g
variable {w1 wr w2 w' : World} {hb : Nat} {S S' : PHeap} {F F' : Nat → Prop} {bs : List Nat} {ss : Nat → σ} {v v' : Value} {D : Nat → Nat → Prop} {D' : Nat → Prop}
theorem row_keep {e : TypeId} {size n B : Nat} {xs : List Value} (h : wr.ownsRow B e size v n xs) (hk : ∀ g, v.ownBlock = some g → w'.heap[g]? = wr.heap[g]?) : w'.ownsRow B e size v n xs :=
  ⟨h.1, h.2.imp id fun ⟨g, cap, cur, e1, e2, e3, r⟩ => ⟨g, cap, cur, e1, e2, (hk g (by rw [e1]; rfl)).trans e3, r⟩⟩
theorem Crew.keep (h : Crew Rt w1 hb S F bs ss v D wr) (hb' : Below wr.heap.size wr w') : Crew Rt w1 hb S F bs ss v D w' :=
  ⟨h.own.keep hb', fun j b hj => ⟨Rt.below (h.each j b hj).1 hb', (h.each j b hj).2⟩, h.apart, row_keep h.row fun g hg => hb'.block g (World.ownsRow.lt h.row g hg).2, h.off⟩
theorem Crew.cell {g cap j b : Nat} (h : Crew Rt w1 hb S F bs ss (.slice (some ⟨g, 0, none⟩) bs.length cap) D wr) (hj : bs[j]? = some b) : wr.cell? ⟨g, j, none⟩ = some (.pointer (some ⟨b, 0, none⟩)) := by
  have := h.row.cells (g := g) rfl j (.pointer (some ⟨b, 0, none⟩)) (by simp [ptrsL, hj])
  have e2 : (⟨g, 0, none⟩ : Addr).add j = ⟨g, j, none⟩ := by unfold Addr.add; split <;> simp_all
  rw [e2] at this
  exact this
theorem lt_of_get {l : List Nat} {j b : Nat} (h : l[j]? = some b) : j < l.length := (List.getElem?_eq_some_iff.1 h).1
/-- One thread has gone on. -/
theorem Crew.step {j0 b0 : Nat} {s' : σ} (h : Crew Rt w1 hb S F bs ss v D wr) (hj0 : bs[j0]? = some b0) (po : Own w1 hb S' F' w') (pr : Rt.R w' D' b0 s') (pof : Off F' D') (ps : ∀ k, F' k ∨ D' k → F k ∨ D j0 k ∨ wr.heap.size ≤ k) (pc : Chg (fun k => F k ∨ D j0 k) wr w') :
    Crew Rt w1 hb S' F' bs (fun j => if j = j0 then s' else ss j) v (fun j => if j = j0 then D' else D j) w' := by
  have hl0 := lt_of_get hj0
  have keepB : ∀ k, k < wr.heap.size → ¬ F k → ¬ D j0 k → w'.heap[k]? = wr.heap[k]? ∧ ¬ F' k ∧ ¬ D' k := by
    intro k hk hF hD
    have hno : ¬ (F' k ∨ D' k) := fun hh => by
      rcases ps k hh with h1 | h1 | h1
      · exact hF h1
      · exact hD h1
      · omega
    exact ⟨pc.block k hk (fun hh => hh.elim hF hD), fun hh => hno (.inl hh), fun hh => hno (.inr hh)⟩
  have kD : ∀ j b, bs[j]? = some b → j ≠ j0 → ∀ k, D j k → w'.heap[k]? = wr.heap[k]? ∧ ¬ F' k ∧ ¬ D' k := fun j b hj hne k hk =>
    keepB k (Rt.own (h.each j b hj).1 k hk) (fun hF => (h.each j b hj).2.1 k hF hk) (fun hD => h.apart j j0 (lt_of_get hj) hl0 hne k hk hD)
  have get : ∀ j, j < bs.length → ∃ b, bs[j]? = some b := fun j hj => ⟨_, List.getElem?_eq_getElem hj⟩
  refine ⟨po, fun j b hj => ?_, fun i j hi hj hne => ?_, row_keep h.row fun g hg => ?_, fun g hg => ?_⟩
  · by_cases hjj : j = j0
    · subst hjj
      have : b = b0 := by rw [hj] at hj0; injection hj0
      subst this
      rw [if_pos rfl, if_pos rfl]
      refine ⟨pr, pof, fun k hk => ?_⟩
      rcases ps k (.inr hk) with h1 | h1 | h1
      · exact h.own.new k h1
      · exact (h.each j b hj).2.2 k h1
      · have := h.own.below.size; omega
    · rw [if_neg hjj, if_neg hjj]
      exact ⟨Rt.keep (h.each j b hj).1 pc.size fun k hk => (kD j b hj hjj k hk).1, fun k hF hk => (kD j b hj hjj k hk).2.1 hF, (h.each j b hj).2.2⟩
  · obtain ⟨bi, hbi⟩ := get i hi
    obtain ⟨bj, hbj⟩ := get j hj
    by_cases hi0 : i = j0
    · subst hi0
      rw [if_pos rfl, if_neg (fun e => hne e.symm)]
      exact fun k h1 h2 => (kD j bj hbj (fun e => hne e.symm) k h2).2.2 h1
    · rw [if_neg hi0]
      by_cases hj0' : j = j0
      · subst hj0'
        rw [if_pos rfl]
        exact fun k h1 h2 => (kD i bi hbi hi0 k h1).2.2 h2
      · rw [if_neg hj0']
        exact h.apart i j hi hj hne
  · have ho := h.off g hg
    exact (keepB g (World.ownsRow.lt h.row g hg).2 ho.1 (ho.2 j0 hl0)).1
  · have ho := h.off g hg
    have hk := keepB g (World.ownsRow.lt h.row g hg).2 ho.1 (ho.2 j0 hl0)
    refine ⟨hk.2.1, fun j hj => ?_⟩
    by_cases hjj : j = j0
    · rw [if_pos hjj]; exact hk.2.2
    · rw [if_neg hjj]; exact ho.2 j hj
/-- The heap has turned by itself. -/
theorem Crew.turned (h : Crew Rt w1 hb S F bs ss v D wr) (t : Turned F hb S' wr w') : Crew Rt w1 hb S' (nw F wr w') bs ss v D w' := by
  have keepB : ∀ k, k < wr.heap.size → ¬ F k → w'.heap[k]? = wr.heap[k]? ∧ ¬ nw F wr w' k := by
    intro k hk hF
    refine ⟨t.2.block k hk hF, fun hF' => ?_⟩
    rcases hF' with h1 | h1
    · exact hF h1
    · omega
  refine ⟨h.own.turned t, fun j b hj => ?_, h.apart, row_keep h.row fun g hg => ?_, fun g hg => ?_⟩
  · obtain ⟨e1, e2, e3⟩ := h.each j b hj
    have hk : ∀ k, D j k → w'.heap[k]? = wr.heap[k]? ∧ ¬ nw F wr w' k := fun k hk => keepB k (Rt.own e1 k hk) fun hF => e2 k hF hk
    exact ⟨Rt.keep e1 t.2.size fun k hD => (hk k hD).1, fun k hF hD => (hk k hD).2 hF, e3⟩
  · exact (keepB g (World.ownsRow.lt h.row g hg).2 (h.off g hg).1).1
  · exact ⟨(keepB g (World.ownsRow.lt h.row g hg).2 (h.off g hg).1).2, (h.off g hg).2⟩
/-- One thread more. -/
theorem Crew.more {b : Nat} {s : σ} (h : Crew Rt w1 hb S F bs ss v D wr) (hb2 : Below wr.heap.size wr w2) (hN : RAt Rt wr.heap.size w2 b s)
    (hown : w'.ownsRow w1.heap.size Rt.T 1 v' (bs.length + 1) (ptrsL (bs ++ [b]))) (hg : w2.grownBy w' v.ownBlock) (hloc : v'.ownBlock = v.ownBlock ∨ v'.ownBlock = some w2.heap.size) :
    ∃ D'', Crew Rt w1 hb S F (bs ++ [b]) (fun j => if j = bs.length then s else ss j) v' D'' w' := by
  obtain ⟨Dn, hN, hDn⟩ := hN
  have h2 := h.keep hb2
  have hlt := h.own.heap.own
  have hlt2 := h2.own.heap.own
  have hs := hb2.size
  have hw := h.own.below.size
  have vlt : ∀ g, v.ownBlock = some g → w1.heap.size ≤ g ∧ g < wr.heap.size := fun g hg => World.ownsRow.lt h.row g hg
  have keepB : ∀ k, k < w2.heap.size → some k ≠ v.ownBlock → w'.heap[k]? = w2.heap[k]? := fun k hk hne => hg.block k hk hne
  have Dlt : ∀ j, j < bs.length → ∀ k, D j k → k < wr.heap.size := fun j hj k hk => Rt.own (h.each j _ (List.getElem?_eq_getElem hj)).1 k hk
  have Nlt : ∀ k, Dn k → k < w2.heap.size := fun k hk => Rt.own hN k hk
  refine ⟨fun j => if j = bs.length then Dn else D j, ⟨h2.own.heap.keep hg.size fun k hk => keepB k (hlt2 k hk) (fun e => (h.off k e.symm).1 hk), h.own.new, ?_⟩, fun j b' hj => ?_, fun i j hi hj hne => ?_, by rw [List.length_append]; exact hown, fun g hg' => ?_⟩
  · refine ⟨hg.os.trans h2.own.below.os, hg.tape.trans h2.own.below.tape, hg.output.trans h2.own.below.output, Nat.le_trans h2.own.below.size hg.size, fun k hk => (keepB k (Nat.lt_of_lt_of_le hk h2.own.below.size) fun e => ?_).trans (h2.own.below.block k hk)⟩
    have := (vlt k e.symm).1
    omega
  · rcases Nat.lt_or_ge j bs.length with hl | hl
    · rw [List.getElem?_append_left hl] at hj
      rw [if_neg (by omega), if_neg (by omega)]
      obtain ⟨e1, e2, e3⟩ := h2.each j b' hj
      exact ⟨Rt.keep e1 hg.size fun k hk => keepB k (Rt.own e1 k hk) fun e => (h.off k e.symm).2 j hl hk, e2, e3⟩
    · rw [List.getElem?_append_right hl] at hj
      have hj0 : j = bs.length := by
        have := (List.getElem?_eq_some_iff.mp hj).1
        simp at this
        omega
      subst hj0
      simp at hj
      subst hj
      rw [if_pos rfl, if_pos rfl]
      exact ⟨Rt.keep hN hg.size fun k hk => keepB k (Nlt k hk) fun e => by have := (vlt k e.symm).2; have := hDn k hk; omega, fun k hF hk => by have := hlt k hF; have := hDn k hk; omega, fun k hk => by have := hDn k hk; omega⟩
  · rw [List.length_append, List.length_singleton] at hi hj
    by_cases hi0 : i = bs.length
    · rw [if_pos hi0, if_neg (by omega)]
      exact fun k h1 h3 => by have := hDn k h1; have := Dlt j (by omega) k h3; omega
    · rw [if_neg hi0]
      by_cases hj0 : j = bs.length
      · rw [if_pos hj0]
        exact fun k h1 h3 => by have := hDn k h3; have := Dlt i (by omega) k h1; omega
      · rw [if_neg hj0]
        exact h.apart i j (by omega) (by omega) hne
  · rw [List.length_append, List.length_singleton]
    rcases hloc with e | e
    · rw [e] at hg'
      refine ⟨(h.off g hg').1, fun j hj => ?_⟩
      by_cases hj0 : j = bs.length
      · rw [if_pos hj0]
        exact fun hk => by have := hDn g hk; have := (vlt g hg').2; omega
      · rw [if_neg hj0]
        exact (h.off g hg').2 j (by omega)
    · rw [e] at hg'
      injection hg' with hg'
      refine ⟨fun hF => by have := hlt g hF; omega, fun j hj => ?_⟩
      by_cases hj0 : j = bs.length
      · rw [if_pos hj0]
        exact fun hk => by have := Nlt g hk; omega
      · rw [if_neg hj0]
        exact fun hk => by have := Dlt j (by omega) g hk; omega
end
end Go.Proofs.YtmlnhjfdhjachaaGreat

/-
  The routine that reads a key (layer 26): what it is. No condition.
-/
namespace Go.Proofs.YtmlnhjfdhjachaaGreat
set_option linter.unusedVariables false
open Go.ChangeShapes Go.WideShapes Go.ChangeAt Go.RowKit
open Go.ChangeMaps (setBlock)

structure PRead where
  cfg : PCfg
  key : ByteArray
  part : Int
  acts : Int
  pin : PPin
  pp : Int
  pe : Int
  pt : Bool
  find : PFind
  chain : PChain
  code : Int
  took : Bool
  value : ByteArray
  mark : Int
def PRead.cells (s : PRead) (pv fv cv : Value) : Array Value := #[.int .i64 s.cfg.cap, .int .i64 s.cfg.pins, .int .i64 s.cfg.shelves, .int .i64 s.cfg.queue, .int .i64 s.cfg.watchers, .int .u64 s.cfg.seed, .string s.key, .int .i64 s.part, .int .i64 s.acts, pv, .int .i64 s.pp, .int .u64 s.pe, .bool s.pt, fv, cv, .int .i64 s.code, .int .i64 0, .int .i64 0, .bool s.took, .string s.value, .slice none 0 0, .int .i64 0, .slice none 0 0, .int .i64 s.mark, .int .u64 0]
/-- Behind pinning. -/
def PRead.settle1 (s : PRead) : PRead :=
  if s.pin.part = 5 then
    (if s.pin.taken then { s with code := 11, part := 5 } else { s with pp := s.pin.pin, pe := s.pin.epoch, pt := s.pin.taken, mark := s.acts, part := 2, find := newFind s.cfg s.key })
  else s
/-- Behind looking for the key. -/
def PRead.settle2 (s : PRead) : PRead :=
  if s.find.kind = 0 then s
  else if s.find.kind = 1 then { s with part := 3, chain := newChain (3 + s.cfg.pins + s.cfg.cap + 2 * s.find.shelf + 1) s.pe }
  else { s with part := 4 }
/-- Behind the chain. -/
def PRead.settle3 (s : PRead) : PRead := if s.chain.part = 6 then { s with code := 0, took := s.chain.has, value := s.chain.text, part := 4 } else s
/-- What it does next. -/
def PRead.act (s : PRead) : PAct × Bool :=
  if s.part = 1 then s.pin.act
  else if s.part = 2 then s.find.act
  else if s.part = 3 then s.chain.act
  else if s.part = 4 then (⟨2, 1, 3 + s.pp, 0, 0, ByteArray.empty⟩, true)
  else (noAct, false)
/-- What it takes. -/
def PRead.take (s : PRead) (g : PGot) : PRead :=
  if s.part = 1 then PRead.settle1 { s with acts := IntKind.i64.wrap (s.acts + 1), pin := s.pin.take g }
  else if s.part = 2 then PRead.settle2 { s with acts := IntKind.i64.wrap (s.acts + 1), find := s.find.take g }
  else if s.part = 3 then PRead.settle3 { s with acts := IntKind.i64.wrap (s.acts + 1), chain := s.chain.take g }
  else if s.part = 4 then { s with acts := IntKind.i64.wrap (s.acts + 1), part := 5 }
  else s
def PRead.done (s : PRead) : Bool := decide (s.part = 5)
end Go.Proofs.YtmlnhjfdhjachaaGreat

/-
  The routine that reads a key (layer 26): its next act, part by part. No condition.
-/
namespace Go.Proofs.YtmlnhjfdhjachaaGreat
set_option linter.unusedVariables false
open Go.ChangeShapes Go.WideShapes Go.ChangeAt Go.RowKit
open Go.ChangeMaps (setBlock)

end Go.Proofs.YtmlnhjfdhjachaaGreat

/-
  What reading does behind pinning and behind looking for the key (layer 26). No condition.
-/
namespace Go.Proofs.YtmlnhjfdhjachaaGreat
set_option linter.unusedVariables false
open Go.ChangeShapes Go.WideShapes Go.ChangeAt Go.RowKit
open Go.ChangeMaps (setBlock)

end Go.Proofs.YtmlnhjfdhjachaaGreat

/-
  What reading does behind each answer (layer 26): settle. No condition.
-/
namespace Go.Proofs.YtmlnhjfdhjachaaGreat
set_option linter.unusedVariables false
open Go.ChangeShapes Go.WideShapes Go.ChangeAt Go.RowKit
open Go.ChangeMaps (setBlock)

end Go.Proofs.YtmlnhjfdhjachaaGreat

/-
  What reading takes (layer 26), part by part. No condition.
-/
namespace Go.Proofs.YtmlnhjfdhjachaaGreat
set_option linter.unusedVariables false
open Go.ChangeShapes Go.WideShapes Go.ChangeAt Go.RowKit
open Go.ChangeMaps (setBlock)

end Go.Proofs.YtmlnhjfdhjachaaGreat

/-
  Reading's answer; how it is made; the bound (layer 26). No condition.
-/
namespace Go.Proofs.YtmlnhjfdhjachaaGreat
set_option linter.unusedVariables false
open Go.ChangeShapes Go.WideShapes Go.ChangeAt Go.RowKit
open Go.ChangeMaps (setBlock)

end Go.Proofs.YtmlnhjfdhjachaaGreat

/-
  Reading a key (layer 26), as a routine. No condition.
-/
namespace Go.Proofs.YtmlnhjfdhjachaaGreat
set_option linter.unusedVariables false
open Go.ChangeShapes Go.WideShapes Go.ChangeAt Go.RowKit
open Go.ChangeMaps (setBlock)

/-- What holds of one that goes. -/
structure PRead.Inv (s : PRead) : Prop where
  part : 1 ≤ s.part ∧ s.part ≤ 5
  right : s.cfg.Right
  key : s.key.size ≤ 9223372036854775807
  pp : 2 ≤ s.part → s.part ≤ 4 → 0 ≤ s.pp ∧ s.pp < s.cfg.pins
  pe : 0 ≤ s.pe ∧ s.pe ≤ 18446744073709551615
/-- A part that goes lies at a block of its own. -/
def ReadSub (w : World) (Q : Nat → Prop) (b : Nat) (s : PRead) (pv fv cv : Value) : Prop :=
  (s.part = 1 → ∃ rb, pv = .pointer (some ⟨rb, 0, none⟩) ∧ Q rb ∧ rb ≠ b ∧ PinOk s.cfg w rb s.pin ∧ s.pin.part ≠ 5) ∧
  (s.part = 2 → ∃ rb, fv = .pointer (some ⟨rb, 0, none⟩) ∧ Q rb ∧ rb ≠ b ∧ FindIn w rb s.find ∧ s.find.made = true ∧ s.find.kind = 0 ∧ s.find.cfg = s.cfg) ∧
  (s.part = 3 → ∃ rb, cv = .pointer (some ⟨rb, 0, none⟩) ∧ Q rb ∧ rb ≠ b ∧ ChainIn w rb s.chain ∧ 1 ≤ s.chain.part ∧ s.chain.part ≠ 6)
def ReadIn (w : World) (Q : Nat → Prop) (b : Nat) (s : PRead) : Prop :=
  ∃ pv fv cv, Blk w b 128 (s.cells pv fv cv) ∧ (s.part = 0 ∨ (s.Inv ∧ ReadSub w Q b s pv fv cv))
theorem ReadSub.keep {w w' : World} {Q : Nat → Prop} {b : Nat} {s : PRead} {pv fv cv : Value} (h : ReadSub w Q b s pv fv cv) (hk : ∀ k, Q k → w'.heap[k]? = w.heap[k]?) : ReadSub w' Q b s pv fv cv :=
  ⟨fun e => by obtain ⟨rb, h1, h2, h3, h4, h5⟩ := h.1 e; exact ⟨rb, h1, h2, h3, h4.keep (hk _ h2), h5⟩,
   fun e => by obtain ⟨rb, h1, h2, h3, h4, h5⟩ := h.2.1 e; exact ⟨rb, h1, h2, h3, h4.keep (hk _ h2), h5⟩,
   fun e => by obtain ⟨rb, h1, h2, h3, h4, h5⟩ := h.2.2 e; exact ⟨rb, h1, h2, h3, h4.keep (hk _ h2), h5⟩⟩
theorem ReadSub.wide {w : World} {Q Q' : Nat → Prop} {b : Nat} {s : PRead} {pv fv cv : Value} (h : ReadSub w Q b s pv fv cv) (hk : ∀ k, Q k → Q' k) : ReadSub w Q' b s pv fv cv :=
  ⟨fun e => by obtain ⟨rb, h1, h2, h3⟩ := h.1 e; exact ⟨rb, h1, hk _ h2, h3⟩,
   fun e => by obtain ⟨rb, h1, h2, h3⟩ := h.2.1 e; exact ⟨rb, h1, hk _ h2, h3⟩,
   fun e => by obtain ⟨rb, h1, h2, h3⟩ := h.2.2 e; exact ⟨rb, h1, hk _ h2, h3⟩⟩
theorem ReadIn.keep {w w' : World} {Q : Nat → Prop} {b : Nat} {s : PRead} (h : ReadIn w Q b s) (hb : Q b) (hk : ∀ k, Q k → w'.heap[k]? = w.heap[k]?) : ReadIn w' Q b s := by
  obtain ⟨pv, fv, cv, h1, h2⟩ := h
  exact ⟨pv, fv, cv, h1.keep (hk _ hb), h2.imp id fun ⟨h3, h4⟩ => ⟨h3, h4.keep hk⟩⟩
theorem ReadIn.wide {w : World} {Q Q' : Nat → Prop} {b : Nat} {s : PRead} (h : ReadIn w Q b s) (hk : ∀ k, Q k → Q' k) : ReadIn w Q' b s := by
  obtain ⟨pv, fv, cv, h1, h2⟩ := h
  exact ⟨pv, fv, cv, h1, h2.imp id fun ⟨h3, h4⟩ => ⟨h3, h4.wide hk⟩⟩
theorem settle_pin {c : PCfg} {w : World} {rb : Nat} {r : PPin} (h : PinOk c w rb r) : ∀ W : World, Below w.heap.size w W → Calls Tryz.prog 81 #[.pointer (some ⟨rb, 0, none⟩)] W fun e w' => e = .returned (.tuple #[.agg #[.int .i64 r.result.1.1, .int .u64 r.result.1.2.1, .bool r.result.1.2.2], .bool r.result.2]) ∧ Below W.heap.size W w' :=
  fun W hb => pinResult_any (h.lies.below hb)
theorem settle_chain {w : World} {rb : Nat} {r : PChain} (h : ChainIn w rb r) : ∀ W : World, Below w.heap.size w W → Calls Tryz.prog 84 #[.pointer (some ⟨rb, 0, none⟩)] W fun e w' => e = .returned (.tuple #[.agg #[.bool r.result.1.1, .string r.result.1.2.1, .int .u64 r.result.1.2.2], .bool r.result.2]) ∧ Below W.heap.size W w' :=
  fun W hb => chainResult_any (h.below hb)
end Go.Proofs.YtmlnhjfdhjachaaGreat

/-
  What reading a key (layer 26) takes; the routine as a whole. No condition.
-/
namespace Go.Proofs.YtmlnhjfdhjachaaGreat
set_option linter.unusedVariables false
open Go.ChangeShapes Go.WideShapes Go.ChangeAt Go.RowKit
open Go.ChangeMaps (setBlock)

theorem rpinTake_ok {c : PCfg} {w : World} {b : Nat} {s : PPin} (h : PinOk c w b s) (g : PGot) (hg : g.Ok) : Calls Tryz.prog 49 #[.pointer (some ⟨b, 0, none⟩), g.val] w fun e w' => e = .returned (.tuple #[]) ∧ PinOk c w' b (s.take g) ∧ Chg (fun k => k = b) w w' :=
  (pinTake_any h.lies (fun e => by rw [h.inv.cfg]; exact h.inv.two (.inl e)) g hg).mono fun e w' ⟨he, hv, hc⟩ => ⟨he, ⟨hv, h.inv.take g⟩, hc⟩
theorem pin_take_pin {c : PCfg} {s : PPin} (h : PinInv c s) (hp : s.part ≠ 5) (g : PGot) (h5 : (s.take g).part = 5) (ht : (s.take g).taken = false) : 0 ≤ (s.take g).pin ∧ (s.take g).pin < c.pins := by
  have hat := h.at_ok
  have hpt := h.part
  unfold PPin.take at *
  by_cases p1 : s.part = 1
  · rw [if_pos p1] at h5; cases h5
  rw [if_neg p1] at h5 ht ⊢
  by_cases p2 : s.part = 2
  · rw [if_pos p2] at h5 ht ⊢
    by_cases hg : g.word = 0
    · rw [if_pos hg] at h5; cases h5
    rw [if_neg hg] at h5 ht ⊢
    by_cases hx : s.tried + 1 = s.cfg.pins
    · rw [if_pos hx] at ht; cases ht
    rw [if_neg hx] at h5
    exact absurd h5 hp
  rw [if_neg p2] at h5 ht ⊢
  by_cases p4 : s.part = 4
  · rw [if_pos p4] at h5; cases h5
  rw [if_neg p4] at h5 ht ⊢
  by_cases p3 : s.part = 3
  · rw [if_pos p3] at h5 ht ⊢
    by_cases hg : g.word = s.epoch
    · rw [if_pos hg]
      exact ⟨hat.1, hat.2.1⟩
    rw [if_neg hg] at h5; cases h5
  rw [if_neg p3] at h5
  exact absurd h5 hp
theorem chain_take_part {s : PChain} (h : 1 ≤ s.part) (g : PGot) : 1 ≤ (s.take g).part := by
  have hd : ∀ (t : PChain) (x : Int), 1 ≤ (t.down x).part := fun t x => by
    unfold PChain.down PChain.done_
    split <;> simp
  unfold PChain.take PChain.done_
  split
  · exact hd _ _
  · split
    · split <;> simp
    · split
      · exact hd _ _
      · split
        · split <;> simp
        · split
          · simp
          · exact h
section
variable {w : World} {Q : Nat → Prop} {b : Nat} {c : PCfg} {key : ByteArray} {acts pp pe code mark : Int} {pin : PPin} {find : PFind} {chain : PChain} {pt took : Bool} {value : ByteArray} {pv fv cv : Value} {rb : Nat} {gw : Int} {gt : ByteArray}
theorem chg_two {w w' : World} (h : Chg (fun k => k = rb ∨ k = b) w w') (h1 : Q rb) (h2 : Q b) : Chg Q w w' := h.mono fun i hi => by rcases hi with hi | hi <;> rw [hi] <;> assumption
end
end Go.Proofs.YtmlnhjfdhjachaaGreat

/-
  What reading a key (layer 26) takes behind pinning; the routine as a whole. No condition.
-/
namespace Go.Proofs.YtmlnhjfdhjachaaGreat
set_option linter.unusedVariables false
open Go.ChangeShapes Go.WideShapes Go.ChangeAt Go.RowKit
open Go.ChangeMaps (setBlock)

section
variable {w : World} {Q : Nat → Prop} {b : Nat} {c : PCfg} {key : ByteArray} {acts pp pe code mark : Int} {pin : PPin} {find : PFind} {chain : PChain} {pt took : Bool} {value : ByteArray} {pv fv cv : Value} {rb : Nat} {gw : Int} {gt : ByteArray}
end
end Go.Proofs.YtmlnhjfdhjachaaGreat

/-
  The document's going down a chain on a tape, from some place on (layer 24). No condition.
-/
namespace Go.Proofs.YtmlnhjfdhjachaaGreat
set_option linter.unusedVariables false
open Go.ChangeShapes Go.WideShapes Go.ChangeAt Go.RowKit
open Go.ChangeMaps (setBlock)

end Go.Proofs.YtmlnhjfdhjachaaGreat

/-
  The document's reading on a tape (layer 26): the plain law of how it goes beside the routine; what stands still where the tape is over. No condition.
-/
namespace Go.Proofs.YtmlnhjfdhjachaaGreat
set_option linter.unusedVariables false
open Go.ChangeShapes Go.WideShapes Go.ChangeAt Go.RowKit
open Go.ChangeMaps (setBlock)

theorem wrap_succ (k : Nat) : IntKind.i64.wrap (IntKind.i64.wrap (k : Int) + 1) = IntKind.i64.wrap ((k + 1 : Nat) : Int) := by
  simp only [IntKind.wrap_i64]
  omega
theorem wrap_small (k : Nat) (h : k ≤ 1000000) : IntKind.i64.wrap (k : Int) = k := IntWalk.i64_in _ (by omega)
theorem pin_go {s : PPin} (h : s.act.2 = true) : s.part ≠ 5 := fun e => by rw [PPin.act5 e] at h; cases h
theorem chain_go {s : PChain} (h : s.act.2 = true) : s.part ≠ 6 := fun e => by simp [PChain.act, e] at h
/-- What holds of pinning, whatever is answered. -/
structure PinGood (c : PCfg) (s : PPin) : Prop where
  inv : PinInv c s
  ep : 0 ≤ s.epoch ∧ s.epoch ≤ 18446744073709551615
  pin : s.part = 5 → s.taken = false → 0 ≤ s.pin ∧ s.pin < c.pins
theorem PinGood.take {c : PCfg} {s : PPin} (h : PinGood c s) (g : PGot) (hg : g.Ok) : PinGood c (s.take g) := by
  refine ⟨h.inv.take g, ?_, fun h5 ht => ?_⟩
  · have h1 := h.ep
    have h2 : 0 ≤ g.word ∧ g.word ≤ 18446744073709551615 := hg
    unfold PPin.take
    repeat' split
    all_goals first | exact h1 | exact h2 | (show (0 : Int) ≤ 0 ∧ (0 : Int) ≤ 18446744073709551615; decide)
  · by_cases hp : s.part = 5
    · rw [PPin.take5 hp] at h5 ht ⊢
      exact h.pin h5 ht
    · exact pin_take_pin h.inv hp g h5 ht
theorem PRead.act5 {s : PRead} (h : s.part = 5) : s.act = (noAct, false) := by simp [PRead.act, h]
theorem PRead.take5 {s : PRead} (h : s.part = 5) (g : PGot) : s.take g = s := by simp [PRead.take, h]
end Go.Proofs.YtmlnhjfdhjachaaGreat

/-
  The routine that hands an operation in (layer 29): what each of its functions does; as a routine. No condition.
-/
namespace Go.Proofs.YtmlnhjfdhjachaaGreat
set_option linter.unusedVariables false
open Go.ChangeShapes Go.WideShapes Go.ChangeAt Go.RowKit
open Go.ChangeMaps (setBlock)

structure PHand where
  cfg : PCfg
  text : ByteArray
  part : Int
  res : PRes
  full : Bool
  ticket : Int
  record : Int
def PHand.cells (s : PHand) (pv : Value) : Array Value := #[.int .i64 s.cfg.cap, .int .i64 s.cfg.pins, .int .i64 s.cfg.shelves, .int .i64 s.cfg.queue, .int .i64 s.cfg.watchers, .int .u64 s.cfg.seed, .string s.text, .int .i64 s.part, pv, .bool s.full, .int .i64 s.ticket, .int .u64 s.record]
def PHand.settle (s : PHand) : PHand := if s.res.over then (if s.res.full then { s with full := true, part := 4 } else { s with ticket := s.res.ticket, part := 3 }) else s
/-- What it does next. -/
def PHand.act (s : PHand) : PAct × Bool :=
  if s.part = 1 then (⟨5, 0, 2, 0, 0, s.text⟩, true)
  else if s.part = 2 then s.res.act
  else if s.part = 3 then (⟨2, 1, ringAt s.cfg s.ticket, 0, s.record, ByteArray.empty⟩, true)
  else (noAct, false)
/-- What it takes. -/
def PHand.take (s : PHand) (g : PGot) : PHand :=
  if s.part = 1 then { s with record := g.word, part := 2 }
  else if s.part = 2 then PHand.settle { s with res := s.res.take g }
  else if s.part = 3 then { s with part := 4 }
  else s
def PHand.result (s : PHand) : (Bool × Int × Int) × Bool := if s.part = 4 then ((s.full, s.ticket, s.record), true) else ((false, 0, 0), false)
/-- What holds of one that goes. -/
structure PHand.Inv (s : PHand) : Prop where
  part : 1 ≤ s.part ∧ s.part ≤ 4
  right : s.cfg.Right
  rcfg : s.res.cfg = s.cfg ∧ s.res.made = true
  ahead : s.part = 1 → s.res = newRes s.cfg ∧ s.full = false ∧ s.ticket = 0
  goes : s.part = 2 → s.res.over = false ∧ s.full = false ∧ s.ticket = 0
theorem res_ticket {s : PRes} (h : s.over = false) (g : PGot) (h2 : (s.take g).over = true) : 0 ≤ (s.take g).ticket ∧ (s.take g).ticket ≤ 1099511627775 := by
  have hlook : ∀ (t : PRes) (x : Int), t.over = false → (t.look x).over = true → (t.look x).ticket = 0 := fun t x h3 h4 => by
    unfold PRes.look at h4 ⊢
    split at h4
    · simp [h3] at h4
    · rename_i hc
      rw [if_neg hc]
  unfold PRes.take at h2 ⊢
  split
  · rename_i hc
    rw [if_pos hc, h] at h2
    cases h2
  · rename_i hc
    rw [if_neg hc] at h2
    split
    · rename_i hd
      rw [if_pos hd] at h2
      rw [hlook _ _ h h2]
      omega
    · rename_i hd
      rw [if_neg hd] at h2
      split
      · exact cameOf_le _
      · rename_i he
        rw [if_neg he] at h2
        have h5 := hlook { s with tries := IntKind.i64.wrap (s.tries + 1) } g.word h h2
        rw [h5]
        omega
/-- What it takes keeps what holds. -/
theorem PHand.Inv.take {s : PHand} (h : s.Inv) (g : PGot) : (s.take g).Inv ∧ ((0 ≤ s.ticket ∧ s.ticket ≤ 9223372036854775807) → 0 ≤ (s.take g).ticket ∧ (s.take g).ticket ≤ 9223372036854775807) ∧ (s.take g).text = s.text := by
  obtain ⟨⟨p1, p4⟩, hr, hc, ha, hg⟩ := h
  have hcase : s.part = 1 ∨ s.part = 2 ∨ s.part = 3 ∨ s.part = 4 := by omega
  unfold PHand.take
  rcases hcase with e | e | e | e
  · rw [if_pos e]
    have h1 := ha e
    refine ⟨⟨by simp, hr, hc, fun e2 => by simp at e2, fun _ => ⟨?_, h1.2.1, h1.2.2⟩⟩, fun h2 => h2, rfl⟩
    show s.res.over = false
    rw [h1.1]
    rfl
  · rw [if_neg (by omega), if_pos e]
    have h1 := hg e
    have hk := PRes.take_cfg s.res g
    have ht := res_ticket h1.1 g
    show (PHand.settle _).Inv ∧ _
    unfold PHand.settle
    simp only
    split
    · rename_i hov
      split
      · exact ⟨⟨by simp, hr, ⟨hk.1.trans hc.1, hk.2.trans hc.2⟩, fun e2 => by simp at e2, fun e2 => by simp at e2⟩, fun h2 => h2, rfl⟩
      · refine ⟨⟨by simp, hr, ⟨hk.1.trans hc.1, hk.2.trans hc.2⟩, fun e2 => by simp at e2, fun e2 => by simp at e2⟩, fun h2 => ?_, rfl⟩
        have := ht hov
        show 0 ≤ (s.res.take g).ticket ∧ (s.res.take g).ticket ≤ _
        omega
    · rename_i hov
      exact ⟨⟨by simp [e], hr, ⟨hk.1.trans hc.1, hk.2.trans hc.2⟩, fun e2 => by simp [e] at e2, fun _ => ⟨by simpa using hov, h1.2⟩⟩, fun h2 => h2, rfl⟩
  · rw [if_neg (by omega), if_neg (by omega), if_pos e]
    exact ⟨⟨by simp, hr, hc, fun e2 => by simp at e2, fun e2 => by simp at e2⟩, fun h2 => h2, rfl⟩
  · rw [if_neg (by omega), if_neg (by omega), if_neg (by omega)]
    exact ⟨⟨⟨p1, p4⟩, hr, hc, ha, hg⟩, fun h2 => h2, rfl⟩
end Go.Proofs.YtmlnhjfdhjachaaGreat

/-
  The routine that hands an operation in (layer 29): its next act, of the last part. No condition.
-/
namespace Go.Proofs.YtmlnhjfdhjachaaGreat
set_option linter.unusedVariables false
open Go.ChangeShapes Go.WideShapes Go.ChangeAt Go.RowKit
open Go.ChangeMaps (setBlock)

end Go.Proofs.YtmlnhjfdhjachaaGreat

/-
  The routine that hands an operation in (layer 29): its next act. No condition.
-/
namespace Go.Proofs.YtmlnhjfdhjachaaGreat
set_option linter.unusedVariables false
open Go.ChangeShapes Go.WideShapes Go.ChangeAt Go.RowKit
open Go.ChangeMaps (setBlock)

end Go.Proofs.YtmlnhjfdhjachaaGreat

/-
  Handing in alone (layer 29): the plain law. No condition.
-/
namespace Go.Proofs.YtmlnhjfdhjachaaGreat
set_option linter.unusedVariables false
open Go.ChangeShapes Go.WideShapes Go.ChangeAt Go.RowKit
open Go.ChangeMaps (setBlock)

/-- One step of a run. -/
theorem run_one {σ : Type} {Rt : Rout σ} {S S' : PHeap} {s s' : σ} {xs : List (PAct × PGot)} {m : Int} {x : PAct} (ha : Rt.act s = (x, true)) (hr : S.ready x = true) (h : Runs Rt S s xs S' s') (hst : m ≤ (xs.length : Nat) ∨ Rt.can S' s' = false) (hm : 1 ≤ m) :
    ∃ r l, xs = (x, (S.act x r).1) :: l ∧ Runs Rt (S.act x r).2 (Rt.take s (S.act x r).1) l S' s' ∧ (m - 1 ≤ (l.length : Nat) ∨ Rt.can S' s' = false) := by
  match xs, h with
  | [], h =>
    obtain ⟨rfl, rfl⟩ := h
    rcases hst with h1 | h1
    · simp at h1; omega
    · unfold Rout.can at h1
      rw [ha, hr] at h1
      cases h1
  | y :: l, h =>
    obtain ⟨_, r, hy, h⟩ := h
    rw [ha] at hy h
    exact ⟨r, l, by rw [hy], h, hst.imp (fun e => by simp at e; omega) id⟩
/-- A run from where nothing more is done. -/
theorem run_end {σ : Type} {Rt : Rout σ} {S S' : PHeap} {s s' : σ} {xs : List (PAct × PGot)} (ha : (Rt.act s).2 = false) (h : Runs Rt S s xs S' s') : xs = [] ∧ S' = S ∧ s' = s := by
  match xs, h with
  | [], h => exact ⟨rfl, h.1.symm, h.2.symm⟩
  | y :: l, h =>
    have h1 := h.1
    unfold Rout.can at h1
    rw [ha] at h1
    cases h1
end Go.Proofs.YtmlnhjfdhjachaaGreat
