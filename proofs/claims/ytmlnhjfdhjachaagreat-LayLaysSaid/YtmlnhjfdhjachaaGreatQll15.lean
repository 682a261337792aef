import Derived.Test.YtmlnhjfdhjachaaGreatQll11
/-
  Reading alone what was laid (layer 26): the plain law with pairs. No condition.
-/
namespace Go.Proofs.YtmlnhjfdhjachaaGreat
set_option linter.unusedVariables false

/-- A key's value in pairs. -/
def getP : List (ByteArray × ByteArray) → ByteArray → Bool × ByteArray
  | [], _ => (false, ByteArray.empty)
  | p :: m, k => if p.1 = k then (true, p.2) else getP m k
/-- Pairs in which a key has a value: where it goes is told by 'ge'. -/
def putP (ge : ByteArray → Bool) (k v : ByteArray) : List (ByteArray × ByteArray) → Bool → List (ByteArray × ByteArray)
  | [], d => if d then [] else [(k, v)]
  | p :: m, d => (if d then [] else if ge p.1 then [(k, v)] else []) ++ (if p.1 = k then [] else [p]) ++ putP ge k v m (d || ge p.1)
def delP (m : List (ByteArray × ByteArray)) (k : ByteArray) : List (ByteArray × ByteArray) := m.filter fun p => decide (p.1 ≠ k)
theorem getP_app (a b : List (ByteArray × ByteArray)) (k : ByteArray) : getP (a ++ b) k = if (getP a k).1 then getP a k else getP b k := by
  induction a with
  | nil => rfl
  | cons p a ih =>
    show (if p.1 = k then (true, p.2) else getP (a ++ b) k) = if (if p.1 = k then (true, p.2) else getP a k).1 then (if p.1 = k then (true, p.2) else getP a k) else getP b k
    by_cases h : p.1 = k
    · simp [h]
    · rw [if_neg h, if_neg h, ih]
theorem getP_none (m : List (ByteArray × ByteArray)) (k : ByteArray) (h : (getP m k).1 = false) : getP m k = (false, ByteArray.empty) := by
  induction m with
  | nil => rfl
  | cons p m ih =>
    unfold getP at h ⊢
    by_cases hk : p.1 = k
    · rw [if_pos hk] at h; cases h
    · rw [if_neg hk] at h ⊢; exact ih h
theorem getP_del (m : List (ByteArray × ByteArray)) (k t : ByteArray) : getP (delP m k) t = if t = k then (false, ByteArray.empty) else getP m t := by
  induction m with
  | nil => simp [delP, getP]
  | cons p m ih =>
    by_cases hp : p.1 = k
    · have e : delP (p :: m) k = delP m k := by simp [delP, hp]
      rw [e, ih]
      by_cases ht : t = k
      · rw [if_pos ht, if_pos ht]
      · rw [if_neg ht, if_neg ht]
        show _ = (if p.1 = t then (true, p.2) else getP m t)
        rw [if_neg (fun h => ht (h.symm.trans hp))]
    · have e : delP (p :: m) k = p :: delP m k := by simp [delP, hp]
      rw [e]
      show (if p.1 = t then (true, p.2) else getP (delP m k) t) = _
      rw [ih]
      by_cases ht : t = k
      · rw [if_pos ht, if_pos ht, if_neg (fun h => hp (h.trans ht))]
      · rw [if_neg ht, if_neg ht]
        rfl
/-- Of another key it changes nothing. -/
theorem getP_put_ne (ge : ByteArray → Bool) (k v t : ByteArray) (ht : t ≠ k) : ∀ (m : List (ByteArray × ByteArray)) (d : Bool), getP (putP ge k v m d) t = getP m t
  | [], d => by
    unfold putP
    cases d with
    | true => rfl
    | false => show (if k = t then (true, v) else (false, ByteArray.empty)) = (false, ByteArray.empty); rw [if_neg (fun h => ht h.symm)]
  | p :: m, d => by
    have ih := getP_put_ne ge k v t ht m (d || ge p.1)
    unfold putP
    have e1 : ∀ l, getP ((if d then [] else if ge p.1 then [(k, v)] else []) ++ l) t = getP l t := fun l => by
      have e0 : getP [(k, v)] t = (false, ByteArray.empty) := by show (if k = t then (true, v) else (false, ByteArray.empty)) = _; rw [if_neg (fun h => ht h.symm)]
      rw [getP_app]
      split
      · rfl
      · split
        · rw [e0]; rfl
        · rfl
    rw [List.append_assoc, e1]
    show _ = (if p.1 = t then (true, p.2) else getP m t)
    by_cases hp : p.1 = k
    · rw [if_pos hp, if_neg (fun h => ht (h.symm.trans hp)), List.nil_append, ih]
    · rw [if_neg hp]
      show (if p.1 = t then (true, p.2) else getP (putP ge k v m (d || ge p.1)) t) = _
      rw [ih]
theorem getP_put_same (ge : ByteArray → Bool) (k v : ByteArray) : ∀ (m : List (ByteArray × ByteArray)), getP (putP ge k v m false) k = (true, v)
  | [] => by show (if k = k then _ else _) = _; rw [if_pos rfl]
  | p :: m => by
    unfold putP
    cases hg : ge p.1 with
    | true =>
      show (if k = k then (true, v) else _) = _
      rw [if_pos rfl]
    | false =>
      have ih := getP_put_same ge k v m
      by_cases hp : p.1 = k
      · rw [if_pos hp]; simpa using ih
      · rw [if_neg hp]
        show (if p.1 = k then (true, p.2) else getP (putP ge k v m false) k) = _
        rw [if_neg hp, ih]
theorem getP_put (ge : ByteArray → Bool) (k v t : ByteArray) (m : List (ByteArray × ByteArray)) : getP (putP ge k v m false) t = if t = k then (true, v) else getP m t := by
  by_cases ht : t = k
  · rw [if_pos ht, ht]; exact getP_put_same ge k v m
  · rw [if_neg ht]; exact getP_put_ne ge k v t ht m false
theorem putP_len (ge : ByteArray → Bool) (k v : ByteArray) : ∀ (m : List (ByteArray × ByteArray)) (d : Bool), (putP ge k v m d).length ≤ m.length + if d then 0 else 1
  | [], d => by cases d <;> simp [putP]
  | p :: m, d => by
    have ih := putP_len ge k v m (d || ge p.1)
    unfold putP
    simp only [List.length_append, List.length_cons]
    cases d <;> cases hg : ge p.1 <;> rw [hg] at ih <;> (by_cases hp : p.1 = k <;> simp [hp] at ih ⊢ <;> omega)
theorem readV_fst (e : Int) : ∀ (l : List PVersion) (p q : Int), (readV e l p).1 = (readV e l q).1
  | [], _, _ => rfl
  | v :: l, p, q => by
    have ih := readV_fst e l (p + 1) (q + 1)
    unfold readV
    split
    · exact ih
    · split <;> rfl
/-- What is on the shelves is what the pairs tell, at an epoch. -/
structure Know (c : PCfg) (tx : Nat → Option ByteArray) (st : Nat → List PVersion) (e : Int) (m : List (ByteArray × ByteArray)) : Prop where
  at_ : ∀ p t, tx p = some t → (lookP t (plN c t) tx c.shelves.toNat 0).1 = 1 ∧ (lookP t (plN c t) tx c.shelves.toNat 0).2.1 = (p : Nat)
  free : ∀ p, tx p = none → st p = []
  told : ∀ p t, tx p = some t → ((readV e (st p) 0).1.1, (readV e (st p) 0).1.2.1) = getP m t
  none_ : ∀ t, (∀ p, tx p ≠ some t) → getP m t = (false, ByteArray.empty)
theorem know_none (c : PCfg) (e : Int) : Know c (fun _ => none) (fun _ => []) e [] := ⟨fun p t h => (by cases h), fun _ _ => rfl, fun p t h => (by cases h), fun _ _ => rfl⟩
theorem Know.put {c : PCfg} {tx : Nat → Option ByteArray} {st : Nat → List PVersion} {e : Int} {m : List (ByteArray × ByteArray)} (h : Know c tx st e m) {key : ByteArray} {p : Nat} (h1 : (lookP key (plN c key) tx c.shelves.toNat 0).1 = 2) (h2 : (lookP key (plN c key) tx c.shelves.toNat 0).2.1 = p) (htp : tx p = none) :
    Know c (putT tx p key) st e m := by
  have hno : ∀ q, tx q ≠ some key := fun q hq => by have := (h.at_ q key hq).1; rw [h1] at this; cases this
  have he := put_ext htp key
  have hpp : putT tx p key p = some key := by unfold putT; rw [if_pos rfl]
  have hpo : ∀ q, q ≠ p → putT tx p key q = tx q := fun q hq => by unfold putT; rw [if_neg hq]
  obtain ⟨p', k1, _, _, k2⟩ := look_put (key := key) (pl := plN c key) (tx := tx) c.shelves.toNat 0 h1
  have hpe : p' = p := by rw [h2] at k1; omega
  subst hpe
  refine ⟨fun q t hq => ?_, fun q hq => ?_, fun q t hq => ?_, fun t ht => ?_⟩
  · by_cases hqp : q = p'
    · subst hqp
      rw [hpp] at hq
      injection hq with hq
      subst hq
      rw [k2]
      exact ⟨rfl, rfl⟩
    · rw [hpo q hqp] at hq
      have := h.at_ q t hq
      rw [look_ext he _ _ (by rw [this.1]; decide)]
      exact this
  · by_cases hqp : q = p'
    · subst hqp
      rw [hpp] at hq; cases hq
    · rw [hpo q hqp] at hq
      exact h.free q hq
  · by_cases hqp : q = p'
    · subst hqp
      rw [hpp] at hq
      injection hq with hq
      subst hq
      rw [h.free _ htp, h.none_ _ hno]
      rfl
    · rw [hpo q hqp] at hq
      exact h.told q t hq
  · exact h.none_ t fun q hq => ht q (he q t hq)
theorem Know.push {c : PCfg} {tx : Nat → Option ByteArray} {st : Nat → List PVersion} {e : Int} {m m' : List (ByteArray × ByteArray)} (h : Know c tx st e m) {key value : ByteArray} {p : Nat} (hp : tx p = some key) (bk ep : Int) (has : Bool)
    (hm : ∀ t, getP m' t = if t = key ∧ ep ≤ e then (has, if has then value else ByteArray.empty) else getP m t) : Know c tx (putS st p ⟨bk, ep, has, value⟩) e m' := by
  refine ⟨h.at_, fun q hq => ?_, fun q t hq => ?_, fun t ht => ?_⟩
  · unfold putS
    rw [if_neg (fun h => by rw [h, hp] at hq; cases hq)]
    exact h.free q hq
  · rw [hm]
    unfold putS
    by_cases hqp : q = p
    · subst hqp
      rw [hp] at hq
      injection hq with hq
      subst hq
      rw [if_pos rfl]
      unfold readV
      have ht := h.told q key hp
      by_cases hle : e < ep
      · rw [if_pos hle, if_neg (show ¬ (key = key ∧ ep ≤ e) from fun h => by omega)]
        simp only
        rw [readV_fst e (st q) (0 + 1) 0]
        exact ht
      · rw [if_neg hle, if_pos (show key = key ∧ ep ≤ e from ⟨rfl, by omega⟩)]
        cases has <;> rfl
    · have hne : t ≠ key := fun ht => by
        subst ht
        have a1 := (h.at_ q t hq).2
        have a2 := (h.at_ p t hp).2
        rw [a1] at a2
        omega
      rw [if_neg hqp, if_neg (show ¬ (t = key ∧ ep ≤ e) from fun h => hne h.1)]
      exact h.told q t hq
  · rw [hm, if_neg (show ¬ (t = key ∧ ep ≤ e) from fun h => ht p (by rw [h.1]; exact hp))]
    exact h.none_ t ht
end Go.Proofs.YtmlnhjfdhjachaaGreat

/-
  Pairs (the document's table): what is got, put and taken out. No condition.
-/
namespace Go.Proofs.YtmlnhjfdhjachaaGreat
set_option linter.unusedVariables false
open Go.ChangeShapes Go.WideShapes Go.ChangeAt Go.RowKit
open Go.ChangeMaps (setBlock)

def pairC (p : ByteArray × ByteArray) : List Value := [.string p.1, .string p.2]
def pairL (m : List (ByteArray × ByteArray)) : List Value := m.flatMap pairC
theorem pairL_len (m : List (ByteArray × ByteArray)) : (pairL m).length = m.length * 2 := by
  induction m with
  | nil => rfl
  | cons p m ih => simp only [pairL, List.flatMap_cons, List.length_append, List.length_cons, pairC, List.length_nil] at ih ⊢; omega
theorem pairL_snoc (m : List (ByteArray × ByteArray)) (p : ByteArray × ByteArray) : pairL m ++ [.string p.1, .string p.2] = pairL (m ++ [p]) := by simp [pairL, pairC]
/-- A row of pairs that the call made, and its block. -/
structure PRow (v : Value) (g : Nat) (o : Obj) (m : List (ByteArray × ByteArray)) : Prop where
  ex : ∃ cap cur, v = .slice (some ⟨g, 0, none⟩) m.length cap ∧ o = .cells cur 90 ∧ m.length ≤ cap ∧ cap ≤ maxLen ∧ cur.size = cap * 2 ∧ cur.toList.take (m.length * 2) = pairL m
theorem PRow.nil (g : Nat) : PRow (.slice (some ⟨g, 0, none⟩) 0 0) g (.cells #[] 90) [] := ⟨0, #[], rfl, rfl, Nat.le_refl _, Nat.zero_le _, rfl, rfl⟩
theorem PRow.own {v : Value} {g : Nat} {o : Obj} {m : List (ByteArray × ByteArray)} (h : PRow v g o m) {W : World} {base : Nat} (hW : W.heap[g]? = some o) (hb : base ≤ g) : W.ownsRow base 90 2 v m.length (pairL m) := by
  obtain ⟨cap, cur, e1, e2, e3, e4, e5, e6⟩ := h.ex
  exact ⟨pairL_len m, .inr ⟨g, cap, cur, e1, hb, by rw [hW, e2], e3, e4, e5, e6⟩⟩
theorem PRow.slice {v : Value} {g : Nat} {o : Obj} {m : List (ByteArray × ByteArray)} (h : PRow v g o m) : ∃ cap, v = .slice (some ⟨g, 0, none⟩) m.length cap := by
  obtain ⟨cap, cur, e1, _⟩ := h.ex
  exact ⟨cap, e1⟩
theorem PRow.of_own {W : World} {base n g cap : Nat} {m : List (ByteArray × ByteArray)} (h : W.ownsRow base 90 2 (.slice (some ⟨g, 0, none⟩) n cap) n (pairL m)) (hl : m.length = n) : ∃ o, W.heap[g]? = some o ∧ PRow (.slice (some ⟨g, 0, none⟩) n cap) g o m ∧ base ≤ g := by
  subst hl
  rcases h.2 with ⟨h1, _⟩ | ⟨g', cap', cur, e1, e2, e3, e4, e5, e6, e7⟩
  · cases h1
  · injection e1 with e1 _ e1'
    injection e1 with e1
    injection e1 with e1
    subst e1 e1'
    exact ⟨_, e3, ⟨cap, cur, rfl, rfl, e4, e5, e6, e7⟩, e2⟩
theorem PRow.reads {g n cap : Nat} {o : Obj} {m : List (ByteArray × ByteArray)} (h : PRow (.slice (some ⟨g, 0, none⟩) n cap) g o m) {W : World} (hW : W.heap[g]? = some o) : m.length = n ∧ Reads W W.heap.size 2 (some ⟨g, 0, none⟩) n (pairL m) := by
  have h1 := h.own (base := 0) hW (Nat.zero_le _)
  obtain ⟨cap', _, e1, _⟩ := h.ex
  injection e1 with _ e1 _
  subst e1
  exact ⟨rfl, Reads.of_own h1⟩
theorem pair_at {w wr : World} {B n : Nat} {A : Option Addr} {m : List (ByteArray × ByteArray)} (h : Reads w B 2 A n (pairL m)) (hb : Below B w wr) {k : Nat} (hk : k < n) (hn : m.length = n) :
    ∃ ad p, A = some ad ∧ m[k]? = some p ∧ wr.cell? (ad.add (k * 2)) = some (.string p.1) ∧ wr.cell? (ad.add (k * 2 + 1)) = some (.string p.2) := by
  obtain ⟨ad, p, e1, e2, e3, e4⟩ := Reads.fld (mk := pairC) (fun _ => rfl) h hk hn
  exact ⟨ad, p, e1, e3, keepc hb e2 (by have := e4 0 (.string p.1) rfl; rwa [Nat.add_zero] at this), keepc hb e2 (e4 1 (.string p.2) rfl)⟩
theorem delP_snoc {m : List (ByteArray × ByteArray)} {k : Nat} {p : ByteArray × ByteArray} (h : m[k]? = some p) (key : ByteArray) : delP (m.take (k + 1)) key = if p.1 = key then delP (m.take k) key else delP (m.take k) key ++ [p] := by
  rw [List.take_add_one, h]
  unfold delP
  rw [List.filter_append]
  by_cases hk : p.1 = key
  · simp [hk]
  · simp [hk]
/-- Between two rounds of Delete. -/
structure DelRel (w : World) (n : Nat) (m : List (ByteArray × ByteArray)) (key : ByteArray) (v iv : Value) (wr : World) : Prop where
  ex : ∃ (k : Nat) (g cap : Nat), k ≤ n ∧ iv = .int .i64 k ∧ v = .slice (some ⟨g, 0, none⟩) (delP (m.take k) key).length cap ∧ wr.ownsRow w.heap.size 90 2 v (delP (m.take k) key).length (pairL (delP (m.take k) key))
  below : Below w.heap.size w wr
theorem slice_some {w w' : World} {base n g' n' cp' : Nat} {v' : Value} {e : TypeId} {size : Nat} {xs : List Value} (hloc : v'.ownBlock = (Value.slice (some ⟨g', 0, none⟩) n' cp').ownBlock ∨ v'.ownBlock = some w.heap.size) (h : w'.ownsRow base e size v' n xs) : ∃ g cap, v' = .slice (some ⟨g, 0, none⟩) n cap := by
  rcases h.2 with ⟨rfl, _⟩ | ⟨g, cap, _, rfl, _⟩
  · rcases hloc with h | h <;> simp [Value.ownBlock] at h
  · exact ⟨g, cap, rfl⟩
set_option maxRecDepth 100000 in
set_option maxHeartbeats 4000000 in
theorem del_any {w : World} {A : Option Addr} {n cap : Nat} {m : List (ByteArray × ByteArray)} (key : ByteArray) (hlen : m.length = n) (hn : n ≤ 1000) (hr : Reads w w.heap.size 2 A n (pairL m)) :
    Calls Tryz.prog 24 #[.slice A n cap, .string key] w fun e w' => ∃ v g o, e = .returned v ∧ PRow v g o (delP m key) ∧ w'.heap[g]? = some o ∧ w.heap.size ≤ g ∧ Below w.heap.size w w' := by
  obtain ⟨i0, hi, hz0, hz1, hz2⟩ : ∃ i, Tryz.prog.info? 90 = some i ∧ i.zero = some (.agg #[.string ⟨#[]⟩, .string ⟨#[]⟩]) ∧ i.size = 2 ∧ i.bytes = 32 := ⟨_, rfl, rfl, rfl, rfl⟩
  replace hr := Lib.hid hr
  replace hlen := Lib.hid hlen
  go_enter Tryz.func24, Tryz.ntmps24
  go_wp2_with fail
  go_loopw [5, 6] (fun v iv wr => DelRel w n m key v iv wr) (fun _ i _ => n + 1 - (intOf i).toNat)
  case atStart =>
    refine ⟨⟨0, w.heap.size, 0, Nat.zero_le _, rfl, rfl, ?_⟩, ?_⟩
    · exact (PRow.nil w.heap.size).own (heap_alloc_new w _) (Nat.le_refl _)
    · exact (Below.refl _ _).alloc (Nat.le_refl _) _
  case round =>
    obtain ⟨⟨k, g, cp, hk, rfl, rfl, hown⟩, hbl⟩ := hrel
    by_cases hlt : k < n
    · have d2 : decide ((k : Int) < (n : Int)) = true := by simpa using hlt
      obtain ⟨ad, p, rfl, hp, r0, r1⟩ := pair_at hr.out hbl hlt hlen.out
      have hds := delP_snoc hp key
      have i1 : (0 : Int) ≤ (k : Int) := by omega
      have i2 : (k : Int) < (n : Int) := by omega
      have hl63 : (k : Int) + 1 ≤ 9223372036854775807 := by omega
      have hdl : (delP (m.take k) key).length ≤ 1000 := by
        have : (delP (m.take k) key).length ≤ (m.take k).length := List.length_filter_le _ _
        have h2 : (m.take k).length ≤ n := by rw [List.length_take, hlen.out]; omega
        omega
      have r1' : wr.cell? ⟨(ad.add (k * 2)).block, (ad.add (k * 2)).off + 1, none⟩ = some (.string p.2) := by
        have e : (⟨(ad.add (k * 2)).block, (ad.add (k * 2)).off + 1, none⟩ : Addr) = (ad.add (k * 2)).add 1 := rfl
        rw [e, add_of_add]
        exact r1
      obtain ⟨pk, pv⟩ := p
      simp only at hds r0 r1 r1'
      clear r1
      replace hp := Lib.hid hp
      by_cases hpk : pk = key
      · rw [if_pos hpk] at hds
        subst hpk
        replace hds := Lib.hid hds
        replace hown := Lib.hid hown
        replace hbl := Lib.hid hbl
        go_wp2_with fail
        go_roundw
        case rel => exact ⟨⟨k + 1, g, cp, by omega, by go_num, by rw [hds.out], by rw [hds.out]; exact hown.out⟩, hbl.out⟩
        case measure => simp [intOf]; omega
      · rw [if_neg hpk] at hds
        have hsn := pairL_snoc (delP (m.take k) key) (pk, pv)
        generalize delP (m.take k) key = l at *
        have d3 := txt_ne hpk
        have d3b : (pk.toList == key.toList) = false := by rw [beq_eq_false_iff_ne]; exact d3
        replace hpk := Lib.hid hpk
        replace hds := Lib.hid hds
        replace hsn := Lib.hid hsn
        replace hown := Lib.hid hown
        replace hbl := Lib.hid hbl
        go_wp2_with (at_builtin; go_loud (refine wpList_append_any _ rfl _ _ 37 rfl w.heap.size 90 i0 (.agg #[.string ⟨#[]⟩, .string ⟨#[]⟩]) 2 32 Tryz.underlying37 hi hz0 hz1 hz2 rfl (by decide) _ _ _ rfl (hown.out.alloc _) (wr.heap.size + 1) (some ⟨wr.heap.size, 0, none⟩) 1 1 [.string pk, .string pv] rfl (reads_blk2 (Blk.new wr 90 _) 2 1 rfl (by decide)) (by simp [Value.oneCell']) (by unfold maxLen; omega) (by omega) (by have := hbl.out.size; simp; omega) ?_; intro v' w5 hown5 hgrow hloc; rw [hsn.out] at hown5; have hb5 := owns_below (Nat.le_refl _) (Below.more_ hbl.out _) (hown.out.alloc _) hgrow; have hsl := slice_some (w := wr.alloc (.cells #[.string pk, .string pv] 90)) hloc hown5; replace hown5 := Lib.hid hown5; replace hgrow := Lib.hid hgrow; replace hloc := Lib.hid hloc; replace hb5 := Lib.hid hb5; obtain ⟨g', cp', rfl⟩ := hsl))
        go_roundw
        case rel =>
          have e : (l ++ [(pk, pv)]).length = l.length + 1 := by simp
          exact ⟨⟨k + 1, g', cp', by omega, by go_num, by rw [hds.out, e], by rw [hds.out, e]; exact hown5.out⟩, hb5.out⟩
        case measure => simp [intOf]; omega
    · have d2 : decide ((k : Int) < (n : Int)) = false := by simpa using hlt
      have e : m.take k = m := List.take_of_length_le (by rw [hlen.out]; omega)
      rw [e] at hown ⊢
      obtain ⟨o, h1, h2, h3⟩ := PRow.of_own hown rfl
      clear hown e
      replace h1 := Lib.hid h1
      go_wp2_with fail
      go_ret
      exact ⟨_, _, _, rfl, h2, h1.out, h3, hbl⟩
theorem pairL_snoc' (m : List (ByteArray × ByteArray)) (a b : ByteArray) : pairL m ++ [.string a, .string b] = pairL (m ++ [(a, b)]) := pairL_snoc m (a, b)
theorem putP_drop {m : List (ByteArray × ByteArray)} {k : Nat} {p : ByteArray × ByteArray} (h : m[k]? = some p) (ge : ByteArray → Bool) (key v : ByteArray) (d : Bool) : putP ge key v (m.drop k) d = (if d then [] else if ge p.1 then [(key, v)] else []) ++ (if p.1 = key then [] else [p]) ++ putP ge key v (m.drop (k + 1)) (d || ge p.1) := by
  have h1 : m.drop k = p :: m.drop (k + 1) := by
    obtain ⟨h2, h3⟩ := List.getElem?_eq_some_iff.1 h
    rw [← h3]; exact List.drop_eq_getElem_cons h2
  rw [h1]
  rfl
def geP (key : ByteArray) : ByteArray → Bool := fun t => !(Op.bytesLess t.toList key.toList)
/-- Between two rounds of Put. -/
structure PutRel (w : World) (n : Nat) (m : List (ByteArray × ByteArray)) (key value : ByteArray) (v dv iv : Value) (wr : World) : Prop where
  ex : ∃ (k : Nat) (d : Bool) (acc : List (ByteArray × ByteArray)) (g cap : Nat), k ≤ n ∧ iv = .int .i64 k ∧ dv = .bool d ∧ v = .slice (some ⟨g, 0, none⟩) acc.length cap ∧ wr.ownsRow w.heap.size 90 2 v acc.length (pairL acc) ∧ acc ++ putP (geP key) key value (m.drop k) d = putP (geP key) key value m false ∧ acc.length ≤ k + (if d then 1 else 0)
  below : Below w.heap.size w wr
theorem slen {a : List (ByteArray × ByteArray)} (p : ByteArray × ByteArray) : (a ++ [p]).length = a.length + 1 := by simp
set_option maxRecDepth 100000 in
set_option maxHeartbeats 8000000 in
theorem put_any {w : World} {A : Option Addr} {n cap : Nat} {m : List (ByteArray × ByteArray)} (key value : ByteArray) (hlen : m.length = n) (hn : n ≤ 1000) (hr : Reads w w.heap.size 2 A n (pairL m)) :
    Calls Tryz.prog 23 #[.slice A n cap, .string key, .string value] w fun e w' => ∃ v g o, e = .returned v ∧ PRow v g o (putP (geP key) key value m false) ∧ w'.heap[g]? = some o ∧ w.heap.size ≤ g ∧ Below w.heap.size w w' := by
  obtain ⟨i0, hi, hz0, hz1, hz2⟩ : ∃ i, Tryz.prog.info? 90 = some i ∧ i.zero = some (.agg #[.string ⟨#[]⟩, .string ⟨#[]⟩]) ∧ i.size = 2 ∧ i.bytes = 32 := ⟨_, rfl, rfl, rfl, rfl⟩
  replace hr := Lib.hid hr
  replace hlen := Lib.hid hlen
  go_enter Tryz.func23, Tryz.ntmps23
  go_wp2_with fail
  go_loopw [7, 8, 9] (fun v dv iv wr => PutRel w n m key value v dv iv wr) (fun _ _ i _ => n + 1 - (intOf i).toNat)
  case atStart =>
    refine ⟨⟨0, false, [], w.heap.size, 0, Nat.zero_le _, rfl, rfl, rfl, ?_, rfl, Nat.zero_le _⟩, ?_⟩
    · exact (PRow.nil w.heap.size).own (heap_alloc_new w _) (Nat.le_refl _)
    · exact (Below.refl _ _).alloc (Nat.le_refl _) _
  case round =>
    obtain ⟨⟨k, d, acc, g, cp, hk, rfl, rfl, rfl, hown, hput, hal⟩, hbl⟩ := hrel
    by_cases hlt : k < n
    · have d2 : decide ((k : Int) < (n : Int)) = true := by simpa using hlt
      obtain ⟨ad, p, rfl, hp, r0, r1⟩ := pair_at hr.out hbl hlt hlen.out
      rw [putP_drop hp] at hput
      have i1 : (0 : Int) ≤ (k : Int) := by omega
      have i2 : (k : Int) < (n : Int) := by omega
      have hl63 : (k : Int) + 1 ≤ 9223372036854775807 := by omega
      have r1' : wr.cell? ⟨(ad.add (k * 2)).block, (ad.add (k * 2)).off + 1, none⟩ = some (.string p.2) := by
        have e : (⟨(ad.add (k * 2)).block, (ad.add (k * 2)).off + 1, none⟩ : Addr) = (ad.add (k * 2)).add 1 := rfl
        rw [e, add_of_add]
        exact r1
      obtain ⟨pk, pv⟩ := p
      simp only at hput r0 r1'
      clear r1
      replace hp := Lib.hid hp
      have hlat : ∀ W, Below w.heap.size w W → W.cell? (ad.add (k * 2)) = some (.string pk) ∧ W.cell? ⟨(ad.add (k * 2)).block, (ad.add (k * 2)).off + 1, none⟩ = some (.string pv) := fun W hW => by
        obtain ⟨ad', p', e1, e2, e3, e4⟩ := pair_at hr.out hW hlt hlen.out
        injection e1 with e1
        subst e1
        have e5 := hp.out
        rw [e2] at e5
        injection e5 with e5
        subst e5
        have e : (⟨(ad.add (k * 2)).block, (ad.add (k * 2)).off + 1, none⟩ : Addr) = (ad.add (k * 2)).add 1 := rfl
        rw [e, add_of_add]
        exact ⟨e3, e4⟩
      replace hlat := Lib.hid hlat
      have hq : (!(Op.bytesLess pk.toList key.toList)) = geP key pk := rfl
      have hcs : (d = true) ∨ (d = false ∧ geP key pk = true) ∨ (d = false ∧ geP key pk = false) := by cases d <;> cases geP key pk <;> simp
      replace hown := Lib.hid hown
      replace hbl := Lib.hid hbl
      rcases hcs with rfl | ⟨rfl, hge⟩ | ⟨rfl, hge⟩ <;> simp only [if_true, Bool.false_eq_true, if_false, Nat.add_zero] at hal
      · simp only [if_true, List.nil_append, Bool.true_or] at hput
        clear hq
        by_cases hpk : pk = key
        · rw [if_pos hpk, List.nil_append] at hput
          subst hpk
          replace hput := Lib.hid hput
          go_wp2_with fail
          go_roundw
          case rel => exact ⟨⟨k + 1, true, acc, g, cp, by omega, by go_num, rfl, by first | rfl | (simp only [slen]), by first | exact hown.out | (simp only [slen]; exact hown.out), hput.out, by simp; omega⟩, hbl.out⟩
          case measure => simp [intOf]; omega
        · rw [if_neg hpk, ← List.append_assoc] at hput
          have d3 := txt_ne hpk
          have d3b : (pk.toList == key.toList) = false := by rw [beq_eq_false_iff_ne]; exact d3
          replace hpk := Lib.hid hpk
          replace hput := Lib.hid hput
          go_wp2_with (at_builtin; go_loud (refine wpList_append_any _ rfl _ _ 37 rfl w.heap.size 90 i0 (.agg #[.string ⟨#[]⟩, .string ⟨#[]⟩]) 2 32 Tryz.underlying37 hi hz0 hz1 hz2 rfl (by decide) _ _ _ rfl (hown.out.alloc _) (wr.heap.size + 1) (some ⟨wr.heap.size, 0, none⟩) 1 1 [.string pk, .string pv] rfl (reads_blk2 (Blk.new wr 90 _) 2 1 rfl (by decide)) (by simp [Value.oneCell']) (by unfold maxLen; omega) (by omega) (by have := hbl.out.size; simp; omega) ?_; intro v' w6 hown6 hgrow hloc; rw [pairL_snoc' acc (pk, pv).1 (pk, pv).2] at hown6; have hb6 := owns_below (Nat.le_refl _) (Below.more_ hbl.out _) (hown.out.alloc _) hgrow; have hsl := slice_some (w := wr.alloc (.cells #[.string pk, .string pv] 90)) hloc hown6; replace hown6 := Lib.hid hown6; clear hgrow hloc; replace hb6 := Lib.hid hb6; obtain ⟨g6, cp6, rfl⟩ := hsl))
          go_roundw
          case rel => exact ⟨⟨k + 1, true, (acc ++ [(pk, pv)]), g6, cp6, by omega, by go_num, rfl, by first | rfl | (simp only [slen]), by first | exact hown6.out | (simp only [slen]; exact hown6.out), hput.out, by simp; omega⟩, hb6.out⟩
          case measure => simp [intOf]; omega
      · rw [hge] at hq hput
        simp only [if_true, Bool.false_eq_true, if_false, Bool.or_true] at hput
        rw [List.append_assoc, ← List.append_assoc] at hput
        by_cases hpk : pk = key
        · rw [if_pos hpk, List.nil_append] at hput
          subst hpk
          replace hput := Lib.hid hput
          go_wp2_with (at_builtin; go_loud (refine wpList_append_any _ rfl _ _ 37 rfl w.heap.size 90 i0 (.agg #[.string ⟨#[]⟩, .string ⟨#[]⟩]) 2 32 Tryz.underlying37 hi hz0 hz1 hz2 rfl (by decide) _ _ _ rfl (hown.out.alloc _) (wr.heap.size + 1) (some ⟨wr.heap.size, 0, none⟩) 1 1 [.string pk, .string value] rfl (reads_blk2 (Blk.new wr 90 _) 2 1 rfl (by decide)) (by simp [Value.oneCell']) (by unfold maxLen; omega) (by omega) (by have := hbl.out.size; simp; omega) ?_; intro v' w5 hown5 hgrow hloc; rw [pairL_snoc' acc (pk, value).1 (pk, value).2] at hown5; have hb5 := owns_below (Nat.le_refl _) (Below.more_ hbl.out _) (hown.out.alloc _) hgrow; have hsl := slice_some (w := wr.alloc (.cells #[.string pk, .string value] 90)) hloc hown5; replace hown5 := Lib.hid hown5; clear hgrow hloc; obtain ⟨s0, s1⟩ := hlat.out _ hb5; replace hb5 := Lib.hid hb5; obtain ⟨g5, cp5, rfl⟩ := hsl))
          go_roundw
          case rel => exact ⟨⟨k + 1, true, (acc ++ [(pk, value)]), g5, cp5, by omega, by go_num, rfl, by first | rfl | (simp only [slen]), by first | exact hown5.out | (simp only [slen]; exact hown5.out), hput.out, by simp; omega⟩, hb5.out⟩
          case measure => simp [intOf]; omega
        · rw [if_neg hpk, ← List.append_assoc] at hput
          have d3 := txt_ne hpk
          have d3b : (pk.toList == key.toList) = false := by rw [beq_eq_false_iff_ne]; exact d3
          replace hpk := Lib.hid hpk
          replace hput := Lib.hid hput
          go_wp2_with (at_builtin; first | (refine wpList_append_any _ rfl _ _ 37 rfl w.heap.size 90 i0 (.agg #[.string ⟨#[]⟩, .string ⟨#[]⟩]) 2 32 Tryz.underlying37 hi hz0 hz1 hz2 rfl (by decide) _ _ _ rfl (hown5.out.alloc _) (w5.heap.size + 1) (some ⟨w5.heap.size, 0, none⟩) 1 1 [.string pk, .string pv] rfl (reads_blk2 (Blk.new w5 90 _) 2 1 rfl (by decide)) (by simp [Value.oneCell']) (by unfold maxLen; (try simp only [List.length_append, List.length_cons, List.length_nil]); omega) (by (try simp only [List.length_append, List.length_cons, List.length_nil]); omega) (by have := hb5.out.size; simp; omega) ?_; intro v' w6 hown6 hgrow hloc; rw [pairL_snoc' (acc ++ [(key, value)]) (pk, pv).1 (pk, pv).2] at hown6; have hb6 := owns_below (Nat.le_refl _) (Below.more_ hb5.out _) (hown5.out.alloc _) hgrow; have hsl := slice_some (w := w5.alloc (.cells #[.string pk, .string pv] 90)) hloc hown6; replace hown6 := Lib.hid hown6; clear hgrow hloc; replace hb6 := Lib.hid hb6; obtain ⟨g6, cp6, rfl⟩ := hsl) | go_loud (refine wpList_append_any _ rfl _ _ 37 rfl w.heap.size 90 i0 (.agg #[.string ⟨#[]⟩, .string ⟨#[]⟩]) 2 32 Tryz.underlying37 hi hz0 hz1 hz2 rfl (by decide) _ _ _ rfl (hown.out.alloc _) (wr.heap.size + 1) (some ⟨wr.heap.size, 0, none⟩) 1 1 [.string key, .string value] rfl (reads_blk2 (Blk.new wr 90 _) 2 1 rfl (by decide)) (by simp [Value.oneCell']) (by unfold maxLen; omega) (by omega) (by have := hbl.out.size; simp; omega) ?_; intro v' w5 hown5 hgrow hloc; rw [pairL_snoc' acc (key, value).1 (key, value).2] at hown5; have hb5 := owns_below (Nat.le_refl _) (Below.more_ hbl.out _) (hown.out.alloc _) hgrow; have hsl := slice_some (w := wr.alloc (.cells #[.string key, .string value] 90)) hloc hown5; replace hown5 := Lib.hid hown5; clear hgrow hloc; obtain ⟨s0, s1⟩ := hlat.out _ hb5; replace hb5 := Lib.hid hb5; obtain ⟨g5, cp5, rfl⟩ := hsl))
          go_roundw
          case rel => exact ⟨⟨k + 1, true, ((acc ++ [(key, value)]) ++ [(pk, pv)]), g6, cp6, by omega, by go_num, rfl, by first | rfl | (simp only [slen]), by first | exact hown6.out | (simp only [slen]; exact hown6.out), hput.out, by simp; omega⟩, hb6.out⟩
          case measure => simp [intOf]; omega
      · rw [hge] at hq hput
        simp only [Bool.false_eq_true, if_false, List.nil_append, Bool.or_false] at hput
        by_cases hpk : pk = key
        · rw [if_pos hpk, List.nil_append] at hput
          subst hpk
          replace hput := Lib.hid hput
          go_wp2_with fail
          go_roundw
          case rel => exact ⟨⟨k + 1, false, acc, g, cp, by omega, by go_num, rfl, by first | rfl | (simp only [slen]), by first | exact hown.out | (simp only [slen]; exact hown.out), hput.out, by simp; omega⟩, hbl.out⟩
          case measure => simp [intOf]; omega
        · rw [if_neg hpk, ← List.append_assoc] at hput
          have d3 := txt_ne hpk
          have d3b : (pk.toList == key.toList) = false := by rw [beq_eq_false_iff_ne]; exact d3
          replace hpk := Lib.hid hpk
          replace hput := Lib.hid hput
          go_wp2_with (at_builtin; go_loud (refine wpList_append_any _ rfl _ _ 37 rfl w.heap.size 90 i0 (.agg #[.string ⟨#[]⟩, .string ⟨#[]⟩]) 2 32 Tryz.underlying37 hi hz0 hz1 hz2 rfl (by decide) _ _ _ rfl (hown.out.alloc _) (wr.heap.size + 1) (some ⟨wr.heap.size, 0, none⟩) 1 1 [.string pk, .string pv] rfl (reads_blk2 (Blk.new wr 90 _) 2 1 rfl (by decide)) (by simp [Value.oneCell']) (by unfold maxLen; omega) (by omega) (by have := hbl.out.size; simp; omega) ?_; intro v' w6 hown6 hgrow hloc; rw [pairL_snoc' acc (pk, pv).1 (pk, pv).2] at hown6; have hb6 := owns_below (Nat.le_refl _) (Below.more_ hbl.out _) (hown.out.alloc _) hgrow; have hsl := slice_some (w := wr.alloc (.cells #[.string pk, .string pv] 90)) hloc hown6; replace hown6 := Lib.hid hown6; clear hgrow hloc; replace hb6 := Lib.hid hb6; obtain ⟨g6, cp6, rfl⟩ := hsl))
          go_roundw
          case rel => exact ⟨⟨k + 1, false, (acc ++ [(pk, pv)]), g6, cp6, by omega, by go_num, rfl, by first | rfl | (simp only [slen]), by first | exact hown6.out | (simp only [slen]; exact hown6.out), hput.out, by simp; omega⟩, hb6.out⟩
          case measure => simp [intOf]; omega
    · have d2 : decide ((k : Int) < (n : Int)) = false := by simpa using hlt
      have e : m.drop k = [] := List.drop_of_length_le (by rw [hlen.out]; omega)
      rw [e] at hput
      cases d with
      | true =>
        have hput : acc = putP (geP key) key value m false := by rw [← hput]; simp [putP]
        obtain ⟨o, h1, h2, h3⟩ := PRow.of_own hown rfl
        rw [hput] at h2
        clear hown e
        replace h1 := Lib.hid h1
        replace h2 := Lib.hid h2
        replace hput := Lib.hid hput
        go_wp2_with fail
        go_ret
        exact ⟨_, rfl, _, _, by rw [hput.out]; exact h2.out, h1.out, h3, hbl⟩
      | false =>
        have hput : acc ++ [(key, value)] = putP (geP key) key value m false := by rw [← hput]; simp [putP]
        simp only [Bool.false_eq_true, if_false, Nat.add_zero] at hal
        clear e
        replace hput := Lib.hid hput
        replace hown := Lib.hid hown
        replace hbl := Lib.hid hbl
        go_wp2_with (at_builtin; go_loud (refine wpList_append_any _ rfl _ _ 37 rfl w.heap.size 90 i0 (.agg #[.string ⟨#[]⟩, .string ⟨#[]⟩]) 2 32 Tryz.underlying37 hi hz0 hz1 hz2 rfl (by decide) _ _ _ rfl (hown.out.alloc _) (wr.heap.size + 1) (some ⟨wr.heap.size, 0, none⟩) 1 1 [.string key, .string value] rfl (reads_blk2 (Blk.new wr 90 _) 2 1 rfl (by decide)) (by simp [Value.oneCell']) (by unfold maxLen; omega) (by omega) (by have := hbl.out.size; simp; omega) ?_; intro v' w5 hown5 hgrow hloc; rw [pairL_snoc' acc (key, value).1 (key, value).2] at hown5; have hb5 := owns_below (Nat.le_refl _) (Below.more_ hbl.out _) (hown.out.alloc _) hgrow; have hsl := slice_some (w := wr.alloc (.cells #[.string key, .string value] 90)) hloc hown5; replace hown5 := Lib.hid hown5; clear hgrow hloc; replace hb5 := Lib.hid hb5; obtain ⟨g5, cp5, rfl⟩ := hsl))
        obtain ⟨o, h1, h2, h3⟩ := PRow.of_own hown5.out (slen _)
        replace h1 := Lib.hid h1
        replace h2 := Lib.hid h2
        go_wp2_with fail
        go_ret
        exact ⟨_, rfl, _, _, by rw [← hput.out]; exact h2.out, h1.out, h3, hb5.out⟩
end Go.Proofs.YtmlnhjfdhjachaaGreat
