/-
  Reading alone what was laid (layer 26): the plain law with pairs. No condition.
-/
import Derived.Test.YtmlnhjfdhjachaaGreatLay
namespace Go.Proofs.YtmlnhjfdhjachaaGreat
set_option linter.unusedVariables false

/-- A key's value in pairs. -/
def getP : List (ByteArray × ByteArray) → ByteArray → Bool × ByteArray
  | [], _ => (false, ByteArray.empty)
  | p :: m, k => if p.1 = k then (true, p.2) else getP m k
/-- Pairs in which a key has a value: where it goes is told by 'ge'. -/
def putP (ge : ByteArray → Bool) (k v : ByteArray) : List (ByteArray × ByteArray) → Bool → List (ByteArray × ByteArray)
  | [], d => if d then [] else [(k, v)]
  | p :: m, d => (if d then [] else if ge p.1 then [(k, v)] else []) ++ (if p.1 = k then [] else [p]) ++ putP ge k v m (d || ge p.1)
def delP (m : List (ByteArray × ByteArray)) (k : ByteArray) : List (ByteArray × ByteArray) := m.filter fun p => decide (p.1 ≠ k)
theorem getP_app (a b : List (ByteArray × ByteArray)) (k : ByteArray) : getP (a ++ b) k = if (getP a k).1 then getP a k else getP b k := by
  induction a with
  | nil => rfl
  | cons p a ih =>
    show (if p.1 = k then (true, p.2) else getP (a ++ b) k) = if (if p.1 = k then (true, p.2) else getP a k).1 then (if p.1 = k then (true, p.2) else getP a k) else getP b k
    by_cases h : p.1 = k
    · simp [h]
    · rw [if_neg h, if_neg h, ih]
theorem getP_none (m : List (ByteArray × ByteArray)) (k : ByteArray) (h : (getP m k).1 = false) : getP m k = (false, ByteArray.empty) := by
  induction m with
  | nil => rfl
  | cons p m ih =>
    unfold getP at h ⊢
    by_cases hk : p.1 = k
    · rw [if_pos hk] at h; cases h
    · rw [if_neg hk] at h ⊢; exact ih h
theorem getP_del (m : List (ByteArray × ByteArray)) (k t : ByteArray) : getP (delP m k) t = if t = k then (false, ByteArray.empty) else getP m t := by
  induction m with
  | nil => simp [delP, getP]
  | cons p m ih =>
    by_cases hp : p.1 = k
    · have e : delP (p :: m) k = delP m k := by simp [delP, hp]
      rw [e, ih]
      by_cases ht : t = k
      · rw [if_pos ht, if_pos ht]
      · rw [if_neg ht, if_neg ht]
        show _ = (if p.1 = t then (true, p.2) else getP m t)
        rw [if_neg (fun h => ht (h.symm.trans hp))]
    · have e : delP (p :: m) k = p :: delP m k := by simp [delP, hp]
      rw [e]
      show (if p.1 = t then (true, p.2) else getP (delP m k) t) = _
      rw [ih]
      by_cases ht : t = k
      · rw [if_pos ht, if_pos ht, if_neg (fun h => hp (h.trans ht))]
      · rw [if_neg ht, if_neg ht]
        rfl
/-- Of another key it changes nothing. -/
theorem getP_put_ne (ge : ByteArray → Bool) (k v t : ByteArray) (ht : t ≠ k) : ∀ (m : List (ByteArray × ByteArray)) (d : Bool), getP (putP ge k v m d) t = getP m t
  | [], d => by
    unfold putP
    cases d with
    | true => rfl
    | false => show (if k = t then (true, v) else (false, ByteArray.empty)) = (false, ByteArray.empty); rw [if_neg (fun h => ht h.symm)]
  | p :: m, d => by
    have ih := getP_put_ne ge k v t ht m (d || ge p.1)
    unfold putP
    have e1 : ∀ l, getP ((if d then [] else if ge p.1 then [(k, v)] else []) ++ l) t = getP l t := fun l => by
      have e0 : getP [(k, v)] t = (false, ByteArray.empty) := by show (if k = t then (true, v) else (false, ByteArray.empty)) = _; rw [if_neg (fun h => ht h.symm)]
      rw [getP_app]
      split
      · rfl
      · split
        · rw [e0]; rfl
        · rfl
    rw [List.append_assoc, e1]
    show _ = (if p.1 = t then (true, p.2) else getP m t)
    by_cases hp : p.1 = k
    · rw [if_pos hp, if_neg (fun h => ht (h.symm.trans hp)), List.nil_append, ih]
    · rw [if_neg hp]
      show (if p.1 = t then (true, p.2) else getP (putP ge k v m (d || ge p.1)) t) = _
      rw [ih]
theorem getP_put_done (ge : ByteArray → Bool) (k v : ByteArray) : ∀ (m : List (ByteArray × ByteArray)), getP (putP ge k v m true) k = (false, ByteArray.empty)
  | [] => rfl
  | p :: m => by
    have ih := getP_put_done ge k v m
    unfold putP
    by_cases hp : p.1 = k
    · rw [if_pos hp]; simpa using ih
    · rw [if_neg hp]
      show (if p.1 = k then (true, p.2) else getP (putP ge k v m true) k) = _
      rw [if_neg hp, ih]
theorem getP_put_same (ge : ByteArray → Bool) (k v : ByteArray) : ∀ (m : List (ByteArray × ByteArray)), getP (putP ge k v m false) k = (true, v)
  | [] => by show (if k = k then _ else _) = _; rw [if_pos rfl]
  | p :: m => by
    unfold putP
    cases hg : ge p.1 with
    | true =>
      show (if k = k then (true, v) else _) = _
      rw [if_pos rfl]
    | false =>
      have ih := getP_put_same ge k v m
      by_cases hp : p.1 = k
      · rw [if_pos hp]; simpa using ih
      · rw [if_neg hp]
        show (if p.1 = k then (true, p.2) else getP (putP ge k v m false) k) = _
        rw [if_neg hp, ih]
theorem getP_put (ge : ByteArray → Bool) (k v t : ByteArray) (m : List (ByteArray × ByteArray)) : getP (putP ge k v m false) t = if t = k then (true, v) else getP m t := by
  by_cases ht : t = k
  · rw [if_pos ht, ht]; exact getP_put_same ge k v m
  · rw [if_neg ht]; exact getP_put_ne ge k v t ht m false
theorem putP_len (ge : ByteArray → Bool) (k v : ByteArray) : ∀ (m : List (ByteArray × ByteArray)) (d : Bool), (putP ge k v m d).length ≤ m.length + if d then 0 else 1
  | [], d => by cases d <;> simp [putP]
  | p :: m, d => by
    have ih := putP_len ge k v m (d || ge p.1)
    unfold putP
    simp only [List.length_append, List.length_cons]
    cases d <;> cases hg : ge p.1 <;> rw [hg] at ih <;> (by_cases hp : p.1 = k <;> simp [hp] at ih ⊢ <;> omega)
theorem readV_fst (e : Int) : ∀ (l : List PVersion) (p q : Int), (readV e l p).1 = (readV e l q).1
  | [], _, _ => rfl
  | v :: l, p, q => by
    have ih := readV_fst e l (p + 1) (q + 1)
    unfold readV
    split
    · exact ih
    · split <;> rfl
/-- What is on the shelves is what the pairs tell, at an epoch. -/
structure Know (c : PCfg) (tx : Nat → Option ByteArray) (st : Nat → List PVersion) (e : Int) (m : List (ByteArray × ByteArray)) : Prop where
  at_ : ∀ p t, tx p = some t → (lookP t (plN c t) tx c.shelves.toNat 0).1 = 1 ∧ (lookP t (plN c t) tx c.shelves.toNat 0).2.1 = (p : Nat)
  free : ∀ p, tx p = none → st p = []
  told : ∀ p t, tx p = some t → ((readV e (st p) 0).1.1, (readV e (st p) 0).1.2.1) = getP m t
  none_ : ∀ t, (∀ p, tx p ≠ some t) → getP m t = (false, ByteArray.empty)
theorem know_none (c : PCfg) (e : Int) : Know c (fun _ => none) (fun _ => []) e [] := ⟨fun p t h => (by cases h), fun _ _ => rfl, fun p t h => (by cases h), fun _ _ => rfl⟩
theorem Know.ans {c : PCfg} {tx : Nat → Option ByteArray} {st : Nat → List PVersion} {e : Int} {m : List (ByteArray × ByteArray)} (h : Know c tx st e m) (key : ByteArray) : (ansP c key tx st e).1 = getP m key := by
  unfold ansP
  simp only
  split
  · rename_i h1
    rcases look_kind (key := key) (pl := plN c key) (tx := tx) c.shelves.toNat 0 with ⟨_, p, h2, h3, _⟩ | h2 | ⟨h2, _⟩
    · rw [h2]
      exact h.told p key h3
    · rw [h1] at h2; cases h2
    · rw [h1] at h2; cases h2
  · rename_i h1
    exact (h.none_ key fun p hp => h1 (h.at_ p key hp).1).symm
theorem Know.put {c : PCfg} {tx : Nat → Option ByteArray} {st : Nat → List PVersion} {e : Int} {m : List (ByteArray × ByteArray)} (h : Know c tx st e m) {key : ByteArray} {p : Nat} (h1 : (lookP key (plN c key) tx c.shelves.toNat 0).1 = 2) (h2 : (lookP key (plN c key) tx c.shelves.toNat 0).2.1 = p) (htp : tx p = none) :
    Know c (putT tx p key) st e m := by
  have hno : ∀ q, tx q ≠ some key := fun q hq => by have := (h.at_ q key hq).1; rw [h1] at this; cases this
  have he := put_ext htp key
  have hpp : putT tx p key p = some key := by unfold putT; rw [if_pos rfl]
  have hpo : ∀ q, q ≠ p → putT tx p key q = tx q := fun q hq => by unfold putT; rw [if_neg hq]
  obtain ⟨p', k1, _, _, k2⟩ := look_put (key := key) (pl := plN c key) (tx := tx) c.shelves.toNat 0 h1
  have hpe : p' = p := by rw [h2] at k1; omega
  subst hpe
  refine ⟨fun q t hq => ?_, fun q hq => ?_, fun q t hq => ?_, fun t ht => ?_⟩
  · by_cases hqp : q = p'
    · subst hqp
      rw [hpp] at hq
      injection hq with hq
      subst hq
      rw [k2]
      exact ⟨rfl, rfl⟩
    · rw [hpo q hqp] at hq
      have := h.at_ q t hq
      rw [look_ext he _ _ (by rw [this.1]; decide)]
      exact this
  · by_cases hqp : q = p'
    · subst hqp
      rw [hpp] at hq; cases hq
    · rw [hpo q hqp] at hq
      exact h.free q hq
  · by_cases hqp : q = p'
    · subst hqp
      rw [hpp] at hq
      injection hq with hq
      subst hq
      rw [h.free _ htp, h.none_ _ hno]
      rfl
    · rw [hpo q hqp] at hq
      exact h.told q t hq
  · exact h.none_ t fun q hq => ht q (he q t hq)
theorem Know.push {c : PCfg} {tx : Nat → Option ByteArray} {st : Nat → List PVersion} {e : Int} {m m' : List (ByteArray × ByteArray)} (h : Know c tx st e m) {key value : ByteArray} {p : Nat} (hp : tx p = some key) (bk ep : Int) (has : Bool)
    (hm : ∀ t, getP m' t = if t = key ∧ ep ≤ e then (has, if has then value else ByteArray.empty) else getP m t) : Know c tx (putS st p ⟨bk, ep, has, value⟩) e m' := by
  refine ⟨h.at_, fun q hq => ?_, fun q t hq => ?_, fun t ht => ?_⟩
  · unfold putS
    rw [if_neg (fun h => by rw [h, hp] at hq; cases hq)]
    exact h.free q hq
  · rw [hm]
    unfold putS
    by_cases hqp : q = p
    · subst hqp
      rw [hp] at hq
      injection hq with hq
      subst hq
      rw [if_pos rfl]
      unfold readV
      have ht := h.told q key hp
      by_cases hle : e < ep
      · rw [if_pos hle, if_neg (show ¬ (key = key ∧ ep ≤ e) from fun h => by omega)]
        simp only
        rw [readV_fst e (st q) (0 + 1) 0]
        exact ht
      · rw [if_neg hle, if_pos (show key = key ∧ ep ≤ e from ⟨rfl, by omega⟩)]
        cases has <;> rfl
    · have hne : t ≠ key := fun ht => by
        subst ht
        have a1 := (h.at_ q t hq).2
        have a2 := (h.at_ p t hp).2
        rw [a1] at a2
        omega
      rw [if_neg hqp, if_neg (show ¬ (t = key ∧ ep ≤ e) from fun h => hne h.1)]
      exact h.told q t hq
  · rw [hm, if_neg (show ¬ (t = key ∧ ep ≤ e) from fun h => ht p (by rw [h.1]; exact hp))]
    exact h.none_ t ht
/-- What lies may be read: its acts are at least five. -/
theorem ans_five {c : PCfg} (hc : c.Right) (key : ByteArray) (tx : Nat → Option ByteArray) (st : Nat → List PVersion) (e : Int) : 1 ≤ (ansP c key tx st e).2 := by
  have hsh := hc.shelves
  obtain ⟨d, hd⟩ : ∃ d, c.shelves.toNat = d + 1 := ⟨c.shelves.toNat - 1, by omega⟩
  have h1 : 1 ≤ (lookP key (plN c key) tx c.shelves.toNat 0).2.2 := by
    rw [hd]
    unfold lookP
    split
    · exact Nat.le_refl _
    · split
      · show 1 ≤ 2; decide
      · simp
  unfold ansP
  simp only
  split
  · simp
    omega
  · exact h1
end Go.Proofs.YtmlnhjfdhjachaaGreat
