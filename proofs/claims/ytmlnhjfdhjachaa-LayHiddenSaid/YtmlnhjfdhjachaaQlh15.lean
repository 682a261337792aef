import Derived.Test.YtmlnhjfdhjachaaQlh11
/-
  Reading alone what was laid (layer 26): the plain law with pairs. No condition.
-/
namespace Go.Proofs.Ytmlnhjfdhjachaa
set_option linter.unusedVariables false

/-- A key's value in pairs. -/
def getP : List (ByteArray × ByteArray) → ByteArray → Bool × ByteArray
  | [], _ => (false, ByteArray.empty)
  | p :: m, k => if p.1 = k then (true, p.2) else getP m k
/-- Pairs in which a key has a value: where it goes is told by 'ge'. -/
def putP (ge : ByteArray → Bool) (k v : ByteArray) : List (ByteArray × ByteArray) → Bool → List (ByteArray × ByteArray)
  | [], d => if d then [] else [(k, v)]
  | p :: m, d => (if d then [] else if ge p.1 then [(k, v)] else []) ++ (if p.1 = k then [] else [p]) ++ putP ge k v m (d || ge p.1)
theorem getP_app (a b : List (ByteArray × ByteArray)) (k : ByteArray) : getP (a ++ b) k = if (getP a k).1 then getP a k else getP b k := by
  induction a with
  | nil => rfl
  | cons p a ih =>
    show (if p.1 = k then (true, p.2) else getP (a ++ b) k) = if (if p.1 = k then (true, p.2) else getP a k).1 then (if p.1 = k then (true, p.2) else getP a k) else getP b k
    by_cases h : p.1 = k
    · simp [h]
    · rw [if_neg h, if_neg h, ih]
theorem getP_none (m : List (ByteArray × ByteArray)) (k : ByteArray) (h : (getP m k).1 = false) : getP m k = (false, ByteArray.empty) := by
  induction m with
  | nil => rfl
  | cons p m ih =>
    unfold getP at h ⊢
    by_cases hk : p.1 = k
    · rw [if_pos hk] at h; cases h
    · rw [if_neg hk] at h ⊢; exact ih h
/-- Of another key it changes nothing. -/
theorem getP_put_ne (ge : ByteArray → Bool) (k v t : ByteArray) (ht : t ≠ k) : ∀ (m : List (ByteArray × ByteArray)) (d : Bool), getP (putP ge k v m d) t = getP m t
  | [], d => by
    unfold putP
    cases d with
    | true => rfl
    | false => show (if k = t then (true, v) else (false, ByteArray.empty)) = (false, ByteArray.empty); rw [if_neg (fun h => ht h.symm)]
  | p :: m, d => by
    have ih := getP_put_ne ge k v t ht m (d || ge p.1)
    unfold putP
    have e1 : ∀ l, getP ((if d then [] else if ge p.1 then [(k, v)] else []) ++ l) t = getP l t := fun l => by
      have e0 : getP [(k, v)] t = (false, ByteArray.empty) := by show (if k = t then (true, v) else (false, ByteArray.empty)) = _; rw [if_neg (fun h => ht h.symm)]
      rw [getP_app]
      split
      · rfl
      · split
        · rw [e0]; rfl
        · rfl
    rw [List.append_assoc, e1]
    show _ = (if p.1 = t then (true, p.2) else getP m t)
    by_cases hp : p.1 = k
    · rw [if_pos hp, if_neg (fun h => ht (h.symm.trans hp)), List.nil_append, ih]
    · rw [if_neg hp]
      show (if p.1 = t then (true, p.2) else getP (putP ge k v m (d || ge p.1)) t) = _
      rw [ih]
theorem getP_put_same (ge : ByteArray → Bool) (k v : ByteArray) : ∀ (m : List (ByteArray × ByteArray)), getP (putP ge k v m false) k = (true, v)
  | [] => by show (if k = k then _ else _) = _; rw [if_pos rfl]
  | p :: m => by
    unfold putP
    cases hg : ge p.1 with
    | true =>
      show (if k = k then (true, v) else _) = _
      rw [if_pos rfl]
    | false =>
      have ih := getP_put_same ge k v m
      by_cases hp : p.1 = k
      · rw [if_pos hp]; simpa using ih
      · rw [if_neg hp]
        show (if p.1 = k then (true, p.2) else getP (putP ge k v m false) k) = _
        rw [if_neg hp, ih]
theorem getP_put (ge : ByteArray → Bool) (k v t : ByteArray) (m : List (ByteArray × ByteArray)) : getP (putP ge k v m false) t = if t = k then (true, v) else getP m t := by
  by_cases ht : t = k
  · rw [if_pos ht, ht]; exact getP_put_same ge k v m
  · rw [if_neg ht]; exact getP_put_ne ge k v t ht m false
theorem putP_len (ge : ByteArray → Bool) (k v : ByteArray) : ∀ (m : List (ByteArray × ByteArray)) (d : Bool), (putP ge k v m d).length ≤ m.length + if d then 0 else 1
  | [], d => by cases d <;> simp [putP]
  | p :: m, d => by
    have ih := putP_len ge k v m (d || ge p.1)
    unfold putP
    simp only [List.length_append, List.length_cons]
    cases d <;> cases hg : ge p.1 <;> rw [hg] at ih <;> (by_cases hp : p.1 = k <;> simp [hp] at ih ⊢ <;> omega)
theorem readV_fst (e : Int) : ∀ (l : List PVersion) (p q : Int), (readV e l p).1 = (readV e l q).1
  | [], _, _ => rfl
  | v :: l, p, q => by
    have ih := readV_fst e l (p + 1) (q + 1)
    unfold readV
    split
    · exact ih
    · split <;> rfl
/-- What is on the shelves is what the pairs tell, at an epoch. -/
structure Know (c : PCfg) (tx : Nat → Option ByteArray) (st : Nat → List PVersion) (e : Int) (m : List (ByteArray × ByteArray)) : Prop where
  at_ : ∀ p t, tx p = some t → (lookP t (plN c t) tx c.shelves.toNat 0).1 = 1 ∧ (lookP t (plN c t) tx c.shelves.toNat 0).2.1 = (p : Nat)
  free : ∀ p, tx p = none → st p = []
  told : ∀ p t, tx p = some t → ((readV e (st p) 0).1.1, (readV e (st p) 0).1.2.1) = getP m t
  none_ : ∀ t, (∀ p, tx p ≠ some t) → getP m t = (false, ByteArray.empty)
theorem Know.put {c : PCfg} {tx : Nat → Option ByteArray} {st : Nat → List PVersion} {e : Int} {m : List (ByteArray × ByteArray)} (h : Know c tx st e m) {key : ByteArray} {p : Nat} (h1 : (lookP key (plN c key) tx c.shelves.toNat 0).1 = 2) (h2 : (lookP key (plN c key) tx c.shelves.toNat 0).2.1 = p) (htp : tx p = none) :
    Know c (putT tx p key) st e m := by
  have hno : ∀ q, tx q ≠ some key := fun q hq => by have := (h.at_ q key hq).1; rw [h1] at this; cases this
  have he := put_ext htp key
  have hpp : putT tx p key p = some key := by unfold putT; rw [if_pos rfl]
  have hpo : ∀ q, q ≠ p → putT tx p key q = tx q := fun q hq => by unfold putT; rw [if_neg hq]
  obtain ⟨p', k1, _, _, k2⟩ := look_put (key := key) (pl := plN c key) (tx := tx) c.shelves.toNat 0 h1
  have hpe : p' = p := by rw [h2] at k1; omega
  subst hpe
  refine ⟨fun q t hq => ?_, fun q hq => ?_, fun q t hq => ?_, fun t ht => ?_⟩
  · by_cases hqp : q = p'
    · subst hqp
      rw [hpp] at hq
      injection hq with hq
      subst hq
      rw [k2]
      exact ⟨rfl, rfl⟩
    · rw [hpo q hqp] at hq
      have := h.at_ q t hq
      rw [look_ext he _ _ (by rw [this.1]; decide)]
      exact this
  · by_cases hqp : q = p'
    · subst hqp
      rw [hpp] at hq; cases hq
    · rw [hpo q hqp] at hq
      exact h.free q hq
  · by_cases hqp : q = p'
    · subst hqp
      rw [hpp] at hq
      injection hq with hq
      subst hq
      rw [h.free _ htp, h.none_ _ hno]
      rfl
    · rw [hpo q hqp] at hq
      exact h.told q t hq
  · exact h.none_ t fun q hq => ht q (he q t hq)
theorem Know.push {c : PCfg} {tx : Nat → Option ByteArray} {st : Nat → List PVersion} {e : Int} {m m' : List (ByteArray × ByteArray)} (h : Know c tx st e m) {key value : ByteArray} {p : Nat} (hp : tx p = some key) (bk ep : Int) (has : Bool)
    (hm : ∀ t, getP m' t = if t = key ∧ ep ≤ e then (has, if has then value else ByteArray.empty) else getP m t) : Know c tx (putS st p ⟨bk, ep, has, value⟩) e m' := by
  refine ⟨h.at_, fun q hq => ?_, fun q t hq => ?_, fun t ht => ?_⟩
  · unfold putS
    rw [if_neg (fun h => by rw [h, hp] at hq; cases hq)]
    exact h.free q hq
  · rw [hm]
    unfold putS
    by_cases hqp : q = p
    · subst hqp
      rw [hp] at hq
      injection hq with hq
      subst hq
      rw [if_pos rfl]
      unfold readV
      have ht := h.told q key hp
      by_cases hle : e < ep
      · rw [if_pos hle, if_neg (show ¬ (key = key ∧ ep ≤ e) from fun h => by omega)]
        simp only
        rw [readV_fst e (st q) (0 + 1) 0]
        exact ht
      · rw [if_neg hle, if_pos (show key = key ∧ ep ≤ e from ⟨rfl, by omega⟩)]
        cases has <;> rfl
    · have hne : t ≠ key := fun ht => by
        subst ht
        have a1 := (h.at_ q t hq).2
        have a2 := (h.at_ p t hp).2
        rw [a1] at a2
        omega
      rw [if_neg hqp, if_neg (show ¬ (t = key ∧ ep ≤ e) from fun h => hne h.1)]
      exact h.told q t hq
  · rw [hm, if_neg (show ¬ (t = key ∧ ep ≤ e) from fun h => ht p (by rw [h.1]; exact hp))]
    exact h.none_ t ht
end Go.Proofs.Ytmlnhjfdhjachaa

/-
  Pairs (the document's table): what is got, put and taken out. No condition.
-/
namespace Go.Proofs.Ytmlnhjfdhjachaa
set_option linter.unusedVariables false
open Go.ChangeShapes Go.WideShapes Go.ChangeAt Go.RowKit
open Go.ChangeMaps (setBlock)

def pairC (p : ByteArray × ByteArray) : List Value := [.string p.1, .string p.2]
def pairL (m : List (ByteArray × ByteArray)) : List Value := m.flatMap pairC
theorem pairL_len (m : List (ByteArray × ByteArray)) : (pairL m).length = m.length * 2 := by
  induction m with
  | nil => rfl
  | cons p m ih => simp only [pairL, List.flatMap_cons, List.length_append, List.length_cons, pairC, List.length_nil] at ih ⊢; omega
theorem pairL_snoc (m : List (ByteArray × ByteArray)) (p : ByteArray × ByteArray) : pairL m ++ [.string p.1, .string p.2] = pairL (m ++ [p]) := by simp [pairL, pairC]
/-- A row of pairs that the call made, and its block. -/
structure PRow (v : Value) (g : Nat) (o : Obj) (m : List (ByteArray × ByteArray)) : Prop where
  ex : ∃ cap cur, v = .slice (some ⟨g, 0, none⟩) m.length cap ∧ o = .cells cur 93 ∧ m.length ≤ cap ∧ cap ≤ maxLen ∧ cur.size = cap * 2 ∧ cur.toList.take (m.length * 2) = pairL m
theorem PRow.nil (g : Nat) : PRow (.slice (some ⟨g, 0, none⟩) 0 0) g (.cells #[] 93) [] := ⟨0, #[], rfl, rfl, Nat.le_refl _, Nat.zero_le _, rfl, rfl⟩
theorem PRow.own {v : Value} {g : Nat} {o : Obj} {m : List (ByteArray × ByteArray)} (h : PRow v g o m) {W : World} {base : Nat} (hW : W.heap[g]? = some o) (hb : base ≤ g) : W.ownsRow base 93 2 v m.length (pairL m) := by
  obtain ⟨cap, cur, e1, e2, e3, e4, e5, e6⟩ := h.ex
  exact ⟨pairL_len m, .inr ⟨g, cap, cur, e1, hb, by rw [hW, e2], e3, e4, e5, e6⟩⟩
theorem PRow.slice {v : Value} {g : Nat} {o : Obj} {m : List (ByteArray × ByteArray)} (h : PRow v g o m) : ∃ cap, v = .slice (some ⟨g, 0, none⟩) m.length cap := by
  obtain ⟨cap, cur, e1, _⟩ := h.ex
  exact ⟨cap, e1⟩
theorem PRow.of_own {W : World} {base n g cap : Nat} {m : List (ByteArray × ByteArray)} (h : W.ownsRow base 93 2 (.slice (some ⟨g, 0, none⟩) n cap) n (pairL m)) (hl : m.length = n) : ∃ o, W.heap[g]? = some o ∧ PRow (.slice (some ⟨g, 0, none⟩) n cap) g o m ∧ base ≤ g := by
  subst hl
  rcases h.2 with ⟨h1, _⟩ | ⟨g', cap', cur, e1, e2, e3, e4, e5, e6, e7⟩
  · cases h1
  · injection e1 with e1 _ e1'
    injection e1 with e1
    injection e1 with e1
    subst e1 e1'
    exact ⟨_, e3, ⟨cap, cur, rfl, rfl, e4, e5, e6, e7⟩, e2⟩
theorem PRow.reads {g n cap : Nat} {o : Obj} {m : List (ByteArray × ByteArray)} (h : PRow (.slice (some ⟨g, 0, none⟩) n cap) g o m) {W : World} (hW : W.heap[g]? = some o) : m.length = n ∧ Reads W W.heap.size 2 (some ⟨g, 0, none⟩) n (pairL m) := by
  have h1 := h.own (base := 0) hW (Nat.zero_le _)
  obtain ⟨cap', _, e1, _⟩ := h.ex
  injection e1 with _ e1 _
  subst e1
  exact ⟨rfl, Reads.of_own h1⟩
theorem pair_at {w wr : World} {B n : Nat} {A : Option Addr} {m : List (ByteArray × ByteArray)} (h : Reads w B 2 A n (pairL m)) (hb : Below B w wr) {k : Nat} (hk : k < n) (hn : m.length = n) :
    ∃ ad p, A = some ad ∧ m[k]? = some p ∧ wr.cell? (ad.add (k * 2)) = some (.string p.1) ∧ wr.cell? (ad.add (k * 2 + 1)) = some (.string p.2) := by
  obtain ⟨ad, p, e1, e2, e3, e4⟩ := Reads.fld (mk := pairC) (fun _ => rfl) h hk hn
  exact ⟨ad, p, e1, e3, keepc hb e2 (by have := e4 0 (.string p.1) rfl; rwa [Nat.add_zero] at this), keepc hb e2 (e4 1 (.string p.2) rfl)⟩
def geP (key : ByteArray) : ByteArray → Bool := fun t => !(Op.bytesLess t.toList key.toList)
end Go.Proofs.Ytmlnhjfdhjachaa
