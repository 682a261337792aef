/-
  Several threads that hand in (layer 29): the plain law. No condition.
-/
import Derived.Test.YtfelkkbgbgnpaaaHandP
import Derived.Test.YtfelkkbgbgnpaaaReserveE
namespace Go.Proofs.Ytfelkkbgbgnpaaa
set_option linter.unusedVariables false

/-- A record: a block of two cells that has a text. -/
def Rec (S : PHeap) (R : Int) (t : ByteArray) : Prop := 2 ≤ R ∧ ∃ y, S.find R = some y ∧ y.text = t ∧ y.cells.length = 2
/-- The field: g tickets are given. -/
structure Ticks (c : PCfg) (S : PHeap) (g : Nat) : Prop where
  word : CtlAt S 1 (65537 * (g : Int))
  le : (g : Int) ≤ c.cap
  ring : ∀ j : Nat, 3 + c.pins ≤ j → (j : Int) < 3 + c.pins + c.cap → ∃ y, CtlAt S j y
  faults : S.faults = 0
  one : 1 ≤ S.last
  keys : ∀ x ∈ S.blocks, x.key ≤ S.last
def resm (s : PRes) (x : Int) : Nat := if s.seen then (if s.was = x then 1 else 2) else 3
/-- Where a thread is: its ticket, and in how many acts it is done if the others stay. -/
inductive HSt (c : PCfg) (t : ByteArray) (S : PHeap) (g : Nat) : PHand → Option Nat → Nat → Prop
  | p1 : HSt c t S g ⟨c, t, 1, newRes c, false, 0, 0⟩ none 5
  | p2 {r : PRes} {R : Int} : AInv c r → r.over = false → Rec S R t → HSt c t S g ⟨c, t, 2, r, false, 0, R⟩ none (1 + resm r (65537 * (g : Int)))
  | p3 {r : PRes} {R : Int} {k : Nat} : Rec S R t → k < g → HSt c t S g ⟨c, t, 3, r, false, k, R⟩ (some k) 1
  | p4 {r : PRes} {R : Int} {k : Nat} : Rec S R t → k < g → CtlAt S (ringAt c k).toNat R → HSt c t S g ⟨c, t, 4, r, false, k, R⟩ (some k) 0
  | p5 {r : PRes} {R : Int} : Rec S R t → (g : Int) = c.cap → HSt c t S g ⟨c, t, 4, r, true, 0, R⟩ none 0
/-- What a step does to the others. -/
structure Eff (c : PCfg) (S S' : PHeap) (g g' : Nat) (o : Option Nat) : Prop where
  old : ∀ k y, 2 ≤ k → S.find k = some y → S'.find k = some y
  ring : ∀ k : Nat, (k : Int) < c.cap → o ≠ some k → ∀ v, CtlAt S (ringAt c k).toNat v → CtlAt S' (ringAt c k).toNat v
  ge : g ≤ g'
  full : (g : Int) = c.cap → g' = g
theorem Rec.mono {S S' : PHeap} {R : Int} {t : ByteArray} (h : Rec S R t) (ho : ∀ k y, 2 ≤ k → S.find k = some y → S'.find k = some y) : Rec S' R t := by
  obtain ⟨h1, y, h2, h3⟩ := h
  exact ⟨h1, y, ho _ _ h1 h2, h3⟩
theorem resm_le (s : PRes) (x : Int) : resm s x ≤ 3 := by
  unfold resm
  split
  · split <;> decide
  · decide
theorem HSt.le {c : PCfg} {t : ByteArray} {S : PHeap} {g : Nat} {s : PHand} {o : Option Nat} {n : Nat} (h : HSt c t S g s o n) : n ≤ 5 := by
  cases h with
  | p1 => exact Nat.le_refl _
  | p2 h1 h2 h3 => have := resm_le ‹PRes› (65537 * (g : Int)); omega
  | p3 => decide
  | p4 => decide
  | p5 => decide
theorem HSt.lt {c : PCfg} {t : ByteArray} {S : PHeap} {g : Nat} {s : PHand} {k : Nat} {n : Nat} (h : HSt c t S g s (some k) n) : k < g := by
  cases h with
  | p3 _ h => exact h
  | p4 _ h _ => exact h
theorem HSt.others {c : PCfg} {t : ByteArray} {S S' : PHeap} {g g' : Nat} {s : PHand} {o o' : Option Nat} {n : Nat} (h : HSt c t S g s o n) (hf : Ticks c S g) (he : Eff c S S' g g' o') (hne : ∀ k, o = some k → o' ≠ some k) : ∃ n', HSt c t S' g' s o n' := by
  have hle := hf.le
  cases h with
  | p1 => exact ⟨_, .p1⟩
  | p2 h1 h2 h3 => exact ⟨_, .p2 h1 h2 (h3.mono he.old)⟩
  | p3 h1 h2 => exact ⟨_, .p3 (h1.mono he.old) (Nat.lt_of_lt_of_le h2 he.ge)⟩
  | p4 h1 h2 h3 => exact ⟨_, .p4 (h1.mono he.old) (Nat.lt_of_lt_of_le h2 he.ge) (he.ring _ (by omega) (hne _ rfl) _ h3)⟩
  | p5 h1 h2 => exact ⟨_, .p5 (h1.mono he.old) (by rw [he.full h2]; exact h2)⟩
theorem set_keysH {S : PHeap} {b : Int} {i : Nat} {v : Int} (h : ∀ x ∈ S.blocks, x.key ≤ S.last) : ∀ x ∈ (S.set b i v).blocks, x.key ≤ (S.set b i v).last := fun x hx => by
  obtain ⟨y, hy, rfl⟩ := List.mem_map.1 hx
  have := h y hy
  show (if y.key = b then ({ y with cells := y.cells.set i v } : PBlk) else y).key ≤ S.last
  split <;> exact this
theorem moreN_new {S : PHeap} (hk : ∀ x ∈ S.blocks, x.key ≤ S.last) (n r : Nat) (t : ByteArray) : (S.moreN n r t).find (S.last + 1) = some ⟨S.last + 1, r, List.replicate n 0, t⟩ := by
  unfold PHeap.find PHeap.moreN
  simp only
  rw [List.find?_append]
  have : S.blocks.find? (fun x => x.key == S.last + 1) = none := List.find?_eq_none.2 fun x hx h => by
    have := hk x hx
    simp at h
    omega
  simp [this]
theorem ring_ne {c : PCfg} (hc : c.Right) {i j : Nat} (hi : (i : Int) < c.cap) (hj : (j : Int) < c.cap) (hne : i ≠ j) : (ringAt c i).toNat ≠ (ringAt c j).toNat := by
  have h1 := ringAt_ok hc i (by omega)
  have h2 := ringAt_ok hc j (by omega)
  have e1 : ringAt c i = 3 + c.pins + i := by unfold ringAt; rw [Int.emod_eq_of_lt (by omega) hi]
  have e2 : ringAt c j = 3 + c.pins + j := by unfold ringAt; rw [Int.emod_eq_of_lt (by omega) hj]
  omega
/-- A cell of the control block's head turns: the ring stays. -/
theorem eff_set {c : PCfg} {S : PHeap} {g g' : Nat} {o : Option Nat} {i : Nat} {v : Int} (hr : ∀ k : Nat, (k : Int) < c.cap → o ≠ some k → (ringAt c k).toNat ≠ i) (hg : g ≤ g') (hf : (g : Int) = c.cap → g' = g) : Eff c S (S.set 1 i v) g g' o :=
  ⟨fun k y hk hy => by rw [find_other _ _ _ _ _ (by omega)]; exact hy, fun k hk hne w hw => hw.other v (fun e => hr k hk hne e.symm), hg, hf⟩
theorem eff_same {c : PCfg} {S : PHeap} {g : Nat} {o : Option Nat} : Eff c S S g g o := ⟨fun _ _ _ h => h, fun _ _ _ _ h => h, Nat.le_refl _, fun _ => rfl⟩
/-- A step of the inner routine: the heap. -/
theorem res_heap {S : PHeap} {s : PRes} {x : Int} (hw : CtlAt S 1 x) (hid : s.idle = false) (r : Nat) : ∃ y, s.act = (y, true) ∧ S.ready y = true ∧ ((S.act y r).2 = S ∨ ∃ v, (S.act y r).2 = S.set 1 1 v) := by
  cases hs : s.seen with
  | false =>
    have ha : s.act = (⟨1, 1, ((1 : Nat) : Int), 0, 0, ByteArray.empty⟩, true) := by simp [PRes.act, hid, hs]
    exact ⟨_, ha, ready_load S 1, .inl (by rw [hw.load r])⟩
  | true =>
    have ha : s.act = (⟨3, 1, ((1 : Nat) : Int), s.was, s.next, ByteArray.empty⟩, true) := by simp [PRes.act, hid, hs]
    refine ⟨_, ha, ready_swap S 1 _ _, ?_⟩
    rw [hw.swap s.was s.next r]
    by_cases he : x = s.was
    · exact .inr ⟨s.next, by simp only; rw [if_pos he]⟩
    · exact .inl (by simp only; rw [if_neg he])
/-- A step of the inner routine: how far it is. -/
theorem res_meas {S : PHeap} {s : PRes} {x : Int} (hw : CtlAt S 1 x) (hid : s.idle = false) (ho : s.over = false) (r : Nat) (hno : (s.take (S.act s.act.1 r).1).over = false) : resm (s.take (S.act s.act.1 r).1) x + 1 ≤ resm s x := by
  cases hs : s.seen with
  | false =>
    have ha : s.act = (⟨1, 1, ((1 : Nat) : Int), 0, 0, ByteArray.empty⟩, true) := by simp [PRes.act, hid, hs]
    rw [ha, hw.load r] at hno ⊢
    have htk : s.take ⟨x, ByteArray.empty⟩ = s.look x := by simp [PRes.take, hid, hs]
    simp only at hno ⊢
    rw [htk] at hno ⊢
    obtain ⟨h1, h2⟩ := (look_left s x ho).2.2 hno
    unfold resm
    rw [h1, h2, hs]
    simp
  | true =>
    have ha : s.act = (⟨3, 1, ((1 : Nat) : Int), s.was, s.next, ByteArray.empty⟩, true) := by simp [PRes.act, hid, hs]
    rw [ha, hw.swap s.was s.next r] at hno ⊢
    simp only at hno ⊢
    by_cases he : x = s.was
    · have htk : s.take ⟨x, ByteArray.empty⟩ = { s with over := true, full := false, ticket := cameOf s.was } := by simp [PRes.take, hid, hs, he]
      rw [htk] at hno
      cases hno
    · have htk : s.take ⟨x, ByteArray.empty⟩ = PRes.look { s with tries := IntKind.i64.wrap (s.tries + 1) } x := by simp [PRes.take, hid, hs, he]
      rw [htk] at hno ⊢
      obtain ⟨h1, h2⟩ := (look_left { s with tries := IntKind.i64.wrap (s.tries + 1) } x ho).2.2 hno
      have e1 : resm (PRes.look { s with tries := IntKind.i64.wrap (s.tries + 1) } x) x = 1 := by unfold resm; rw [h1, h2]; simp
      have e2 : resm s x = 2 := by unfold resm; rw [hs, if_pos rfl, if_neg (fun h => he h.symm)]
      rw [e1, e2]
      decide
/-- One step of a thread. -/
structure HStep (c : PCfg) (t : ByteArray) (S : PHeap) (g : Nat) (s : PHand) (o : Option Nat) (n : Nat) (x : PAct) : Prop where
  act : s.act = (x, true)
  ready : S.ready x = true
  next : ∀ r, ∃ g' o' n', Ticks c (S.act x r).2 g' ∧ HSt c t (S.act x r).2 g' (s.take (S.act x r).1) o' n' ∧ n' + 1 ≤ n ∧ Eff c S (S.act x r).2 g g' o ∧ (S.act x r).2.last ≤ S.last + 1 ∧ ((o' = o ∧ g' = g) ∨ (o = none ∧ o' = some g ∧ g' = g + 1))
theorem hand_step {c : PCfg} (hc : c.Right) {t : ByteArray} (ht : t.size ≤ 4096) {S : PHeap} {g : Nat} {s : PHand} {o : Option Nat} {n : Nat} (hf : Ticks c S g) (h : HSt c t S g s o n) (hne : s.part ≠ 4) : ∃ x, HStep c t S g s o n x := by
  have hr : c.right = true := (PCfg.right_iff c).2 hc
  have hcap := hc.cap
  have hle := hf.le
  have hfix : ∀ (i : Nat) (v : Int), Ticks c S g → 4 ≤ i → Ticks c (S.set 1 i v) g := fun i v hf hi => ⟨hf.word.other v (by omega), hf.le, fun j h1 h2 => by
    obtain ⟨y, hy⟩ := hf.ring j h1 h2
    by_cases hji : i = j
    · subst hji; exact ⟨v, hy.same v⟩
    · exact ⟨y, hy.other v hji⟩, hf.faults, hf.one, set_keysH hf.keys⟩
  cases h with
  | p1 =>
    refine ⟨⟨5, 0, ((2 : Nat) : Int), 0, 0, t⟩, rfl, ready_make S 2 t ht, fun r => ?_⟩
    rw [act_make S 2 (by decide) t ht r]
    have hold : ∀ k y, 2 ≤ k → S.find k = some y → (S.moreN 2 r t).find k = some y := fun k y _ hy => moreN_old hy 2 r t
    refine ⟨g, none, 4, ⟨hf.word.moreN 2 r t, hf.le, fun j h1 h2 => ?_, hf.faults, by show (1 : Int) ≤ S.last + 1; have := hf.one; omega, fun x hx => ?_⟩, ?_, by decide, ⟨hold, fun k _ _ v hv => hv.moreN 2 r t, Nat.le_refl _, fun _ => rfl⟩, Int.le_refl _, .inl ⟨rfl, rfl⟩⟩
    · obtain ⟨y, hy⟩ := hf.ring j h1 h2
      exact ⟨y, hy.moreN 2 r t⟩
    · show x.key ≤ S.last + 1
      have hx' : x ∈ S.blocks ++ [⟨S.last + 1, r, List.replicate 2 0, t⟩] := hx
      rcases List.mem_append.1 hx' with h1 | h1
      · have := hf.keys x h1; omega
      · rw [List.mem_singleton.1 h1]; exact Int.le_refl _
    · have e : PHand.take ⟨c, t, 1, newRes c, false, 0, 0⟩ ⟨S.last + 1, ByteArray.empty⟩ = ⟨c, t, 2, newRes c, false, 0, S.last + 1⟩ := rfl
      simp only
      rw [e]
      have e4 : 1 + resm (newRes c) (65537 * (g : Int)) = 4 := by simp [resm, newRes]
      rw [← e4]
      refine .p2 ⟨hr, rfl, fun _ h => by cases h⟩ rfl ⟨by have := hf.one; omega, _, moreN_new hf.keys 2 r t, rfl, rfl⟩
  | @p2 rs R hi ho hR =>
    have hid : rs.idle = false := by simp [PRes.idle, hi.made, ho]
    obtain ⟨y, hy, hrd, _⟩ := res_heap hf.word hid 0
    have ha : PHand.act ⟨c, t, 2, rs, false, 0, R⟩ = (y, true) := by show PRes.act rs = _; exact hy
    refine ⟨y, ha, hrd, fun r => ?_⟩
    have hst := apart_step hf.word hi ho (by omega) hf.le r
    obtain ⟨y2, hy2, _, hhp⟩ := res_heap hf.word hid r
    rw [hy] at hst hy2
    injection hy2 with hy2 _
    subst hy2
    have hms := res_meas hf.word hid ho r
    rw [hy] at hms
    have etk : PHand.take ⟨c, t, 2, rs, false, 0, R⟩ (S.act y r).1 = PHand.settle ⟨c, t, 2, rs.take (S.act y r).1, false, 0, R⟩ := rfl
    rw [etk]
    generalize hg1 : rs.take (S.act y r).1 = rs' at *
    generalize hg2 : (S.act y r).2 = S' at *
    have hset : S' = S ∨ ∃ v, S' = S.set 1 1 v := hhp
    have hrne : ∀ k : Nat, (k : Int) < c.cap → (none : Option Nat) ≠ some k → (ringAt c k).toNat ≠ 1 := fun k hk _ => by have := ringAt_ok hc k (by omega); omega
    have heff : ∀ g', g ≤ g' → ((g : Int) = c.cap → g' = g) → Eff c S S' g g' none := fun g' h1 h2 => by
      rcases hset with e | ⟨v, e⟩
      · rw [e]; exact ⟨fun _ _ _ h => h, fun _ _ _ _ h => h, h1, h2⟩
      · rw [e]; exact eff_set hrne h1 h2
    have hring : ∀ j : Nat, 3 + c.pins ≤ j → (j : Int) < 3 + c.pins + c.cap → ∃ y, CtlAt S' j y := fun j h1 h2 => by
      obtain ⟨y, hy⟩ := hf.ring j h1 h2
      have := hc.pins
      rcases hset with e | ⟨v, e⟩
      · rw [e]; exact ⟨y, hy⟩
      · rw [e]; exact ⟨y, hy.other v (by omega)⟩
    have hkeys : ∀ x ∈ S'.blocks, x.key ≤ S'.last := by
      rcases hset with e | ⟨v, e⟩
      · rw [e]; exact hf.keys
      · rw [e]; exact set_keysH hf.keys
    have hlast : S'.last = S.last := hst.last
    have htick : ∀ g' : Nat, CtlAt S' 1 (65537 * (g' : Int)) → (g' : Int) ≤ c.cap → Ticks c S' g' := fun g' h1 h2 => ⟨h1, h2, hring, hst.faults.trans hf.faults, by rw [hlast]; exact hf.one, hkeys⟩
    have hRec : Rec S' R t := hR.mono (heff g (Nat.le_refl _) fun _ => rfl).old
    rcases hst.out with ⟨k1, k2⟩ | ⟨k1, k2, k3, k4⟩ | ⟨k1, k2, k3, k4, k5⟩
    · have e : PHand.settle ⟨c, t, 2, rs', false, 0, R⟩ = ⟨c, t, 2, rs', false, 0, R⟩ := by simp [PHand.settle, k1]
      rw [e]
      have := hms k1
      exact ⟨g, none, _, htick g k2 hf.le, .p2 hst.inv k1 hRec, by omega, heff g (Nat.le_refl _) fun _ => rfl, by omega, .inl ⟨rfl, rfl⟩⟩
    · have e : PHand.settle ⟨c, t, 2, rs', false, 0, R⟩ = ⟨c, t, 4, rs', true, 0, R⟩ := by simp [PHand.settle, k1, k2]
      rw [e]
      exact ⟨g, none, 0, htick g k4 hf.le, .p5 hRec k3, by omega, heff g (Nat.le_refl _) fun _ => rfl, by omega, .inl ⟨rfl, rfl⟩⟩
    · have e : PHand.settle ⟨c, t, 2, rs', false, 0, R⟩ = ⟨c, t, 3, rs', false, (g : Int), R⟩ := by simp [PHand.settle, k1, k2, k3]
      rw [e]
      have hm1 : 1 ≤ resm rs (65537 * (g : Int)) := by unfold resm; split; split <;> decide; decide
      exact ⟨g + 1, some g, 1, htick (g + 1) (by rw [show ((g + 1 : Nat) : Int) = (g : Int) + 1 by omega]; exact k5) (by omega), .p3 hRec (Nat.lt_succ_self _), by omega, heff (g + 1) (Nat.le_succ _) (fun h => by omega), by omega, .inr ⟨rfl, rfl, rfl⟩⟩
  | @p3 rs R k hR hk =>
    have hra := ringAt_ok hc k (by omega)
    have hrn : ((ringAt c k).toNat : Int) = ringAt c k := by omega
    have ha : PHand.act ⟨c, t, 3, rs, false, k, R⟩ = (⟨2, 1, ((ringAt c k).toNat : Int), 0, R, ByteArray.empty⟩, true) := by rw [hrn]; rfl
    refine ⟨_, ha, ready_store S _ _, fun r => ?_⟩
    obtain ⟨y, hy⟩ := hf.ring (ringAt c k).toNat (by omega) (by omega)
    rw [hy.store R r]
    have hrne : ∀ j : Nat, (j : Int) < c.cap → some k ≠ some j → (ringAt c j).toNat ≠ (ringAt c k).toNat := fun j hj hne => ring_ne hc hj (by omega) fun e => hne (by rw [e])
    have he : Eff c S (S.set 1 (ringAt c k).toNat R) g g (some k) := eff_set hrne (Nat.le_refl _) fun _ => rfl
    refine ⟨g, some k, 0, hfix _ _ hf (by omega), ?_, by decide, he, by show S.last ≤ S.last + 1; omega, .inl ⟨rfl, rfl⟩⟩
    have e : PHand.take ⟨c, t, 3, rs, false, k, R⟩ ⟨0, ByteArray.empty⟩ = ⟨c, t, 4, rs, false, k, R⟩ := rfl
    simp only
    rw [e]
    exact .p4 (hR.mono he.old) hk (hy.same R)
  | p4 => exact absurd rfl hne
  | p5 => exact absurd rfl hne
/-- How many have a ticket. -/
def cntO (os : Nat → Option Nat) : Nat → Nat
  | 0 => 0
  | n + 1 => cntO os n + (if (os n).isSome then 1 else 0)
theorem cntO_congr {f f' : Nat → Option Nat} : ∀ n, (∀ j, j < n → (f j).isSome = (f' j).isSome) → cntO f n = cntO f' n
  | 0, _ => rfl
  | n + 1, h => by
    unfold cntO
    rw [cntO_congr n fun j hj => h j (by omega), h n (by omega)]
theorem cntO_set {f : Nat → Option Nat} {j0 : Nat} (h0 : f j0 = none) (a : Nat) : ∀ n, j0 < n → cntO (fun j => if j = j0 then some a else f j) n = cntO f n + 1
  | 0, h => by omega
  | n + 1, h => by
    unfold cntO
    by_cases hn : n = j0
    · subst hn
      rw [if_pos rfl, h0]
      rw [cntO_congr (f := fun j => if j = n then some a else f j) (f' := f) n (fun j hj => by rw [if_neg (by omega)])]
      rfl
    · rw [if_neg hn, cntO_set h0 a n (by omega)]
      omega
theorem cntO_le (f : Nat → Option Nat) : ∀ n, cntO f n ≤ n
  | 0 => Nat.le_refl _
  | n + 1 => by
    have := cntO_le f n
    unfold cntO
    split <;> omega
theorem cntO_all {f : Nat → Option Nat} : ∀ n, (∀ j, j < n → (f j).isSome = true) → cntO f n = n
  | 0, _ => rfl
  | n + 1, h => by
    unfold cntO
    rw [cntO_all n fun j hj => h j (by omega), h n (by omega), if_pos rfl]
/-- All threads. -/
structure All (c : PCfg) (ts : List ByteArray) (S : PHeap) (g : Nat) (ss : Nat → PHand) (os : Nat → Option Nat) : Prop where
  fs : Ticks c S g
  each : ∀ j t, ts[j]? = some t → ∃ n, HSt c t S g (ss j) (os j) n
  inj : ∀ i j k, i < ts.length → j < ts.length → os i = some k → os j = some k → i = j
  cnt : cntO os ts.length = g
theorem all_start {c : PCfg} (hc : c.Right) (r : Nat) (ts : List ByteArray) (ss : Nat → PHand) (hs : ∀ j t, ts[j]? = some t → ss j = newHand c t) : All c ts (fieldS c r) 0 ss (fun _ => none) := by
  have hz := ctlSize_eq hc
  have h1 := hc.pins
  have h2 := hc.cap
  have h3 := hc.shelves
  refine ⟨⟨field_ctl c r 1 (by omega), by omega, fun j h1 h2 => ⟨0, field_ctl c r j (by omega)⟩, rfl, Int.le_refl _, fun x hx => ?_⟩, fun j t hj => ?_, fun i j k _ _ h _ => (by cases h), ?_⟩
  · have : x = ⟨1, r, List.replicate (ctlSize c) 0, ByteArray.empty⟩ := by simpa [fieldS] using hx
    rw [this]
    exact Int.le_refl _
  · rw [hs j t hj]
    unfold newHand
    rw [if_pos ((PCfg.right_iff c).2 hc)]
    exact ⟨5, .p1⟩
  · have : ∀ n, cntO (fun _ => none) n = 0 := fun n => by
      induction n with
      | zero => rfl
      | succ n ih => unfold cntO; rw [ih]; rfl
    exact this _
/-- One of them takes a step. -/
theorem All.step {c : PCfg} (hc : c.Right) {ts : List ByteArray} (hts : ∀ t ∈ ts, t.size ≤ 4096) {S : PHeap} {g : Nat} {ss : Nat → PHand} {os : Nat → Option Nat} (h : All c ts S g ss os) {j0 n0 : Nat} {t0 : ByteArray} (hj : ts[j0]? = some t0) (hn : HSt c t0 S g (ss j0) (os j0) n0) (hne : (ss j0).part ≠ 4) :
    ∃ x, (ss j0).act = (x, true) ∧ S.ready x = true ∧ ∀ r, ∃ g' os' n', All c ts (S.act x r).2 g' (fun j => if j = j0 then (ss j0).take (S.act x r).1 else ss j) os' ∧ HSt c t0 (S.act x r).2 g' ((ss j0).take (S.act x r).1) (os' j0) n' ∧ n' + 1 ≤ n0 ∧ (S.act x r).2.last ≤ S.last + 1 ∧ (∀ j, j ≠ j0 → os' j = os j) := by
  have hl0 := (List.getElem?_eq_some_iff.1 hj).1
  obtain ⟨x, hx⟩ := hand_step hc (hts _ (List.mem_of_getElem? hj)) h.fs hn hne
  refine ⟨x, hx.act, hx.ready, fun r => ?_⟩
  obtain ⟨g', o', n', k1, k2, k3, k4, k5, k6⟩ := hx.next r
  refine ⟨g', fun j => if j = j0 then o' else os j, n', ⟨k1, fun j t hjt => ?_, fun i j k hi hj' e1 e2 => ?_, ?_⟩, ?_, k3, k5, fun j hj' => by simp only; rw [if_neg hj']⟩
  · by_cases hjj : j = j0
    · subst hjj
      rw [if_pos rfl, if_pos rfl]
      have : t = t0 := by rw [hjt] at hj; injection hj
      rw [this]
      exact ⟨n', k2⟩
    · rw [if_neg hjj, if_neg hjj]
      obtain ⟨n1, h1⟩ := h.each j t hjt
      exact h1.others h.fs k4 fun k e1 e2 => hjj (h.inj j j0 k (List.getElem?_eq_some_iff.1 hjt).1 hl0 e1 e2)
  · have ltk : ∀ j, j < ts.length → ∀ k, os j = some k → k < g := fun j hj k e => by
      obtain ⟨n1, h1⟩ := h.each j _ (List.getElem?_eq_getElem hj)
      rw [e] at h1
      exact h1.lt
    by_cases hi0 : i = j0
    · by_cases hj0 : j = j0
      · rw [hi0, hj0]
      · rw [if_pos hi0] at e1
        rw [if_neg hj0] at e2
        rcases k6 with ⟨m1, _⟩ | ⟨_, m2, _⟩
        · rw [hi0]; exact (h.inj j j0 k hj' hl0 e2 (m1 ▸ e1)).symm
        · rw [m2] at e1
          injection e1 with e1
          have := ltk j hj' k e2
          omega
    · rw [if_neg hi0] at e1
      by_cases hj0 : j = j0
      · rw [if_pos hj0] at e2
        rcases k6 with ⟨m1, _⟩ | ⟨_, m2, _⟩
        · rw [hj0]; exact h.inj i j0 k hi hl0 e1 (m1 ▸ e2)
        · rw [m2] at e2
          injection e2 with e2
          have := ltk i hi k e1
          omega
      · rw [if_neg hj0] at e2
        exact h.inj i j k hi hj' e1 e2
  · rcases k6 with ⟨m1, m2⟩ | ⟨m1, m2, m3⟩
    · rw [m2, ← h.cnt]
      exact cntO_congr _ fun j _ => by
        split
        · rename_i e; rw [e, m1]
        · rfl
    · rw [m2, m3, cntO_set m1 g _ hl0, h.cnt]
  · show HSt c t0 _ g' _ (if j0 = j0 then o' else os j0) n'
    rw [if_pos rfl]
    exact k2
theorem All.congr {c : PCfg} {ts : List ByteArray} {S : PHeap} {g : Nat} {ss ss' : Nat → PHand} {os : Nat → Option Nat} (h : All c ts S g ss os) (e : ∀ j, ss j = ss' j) : All c ts S g ss' os := by
  rw [← show ss = ss' from funext e]
  exact h
/-- One of them goes on alone. -/
theorem All.runs {c : PCfg} (hc : c.Right) {ts : List ByteArray} (hts : ∀ t ∈ ts, t.size ≤ 4096) {j0 : Nat} {t0 : ByteArray} (hj : ts[j0]? = some t0) : ∀ (xs : List (PAct × PGot)) {S S' : PHeap} {g n0 : Nat} {ss : Nat → PHand} {os : Nat → Option Nat} {s' : PHand}, All c ts S g ss os → HSt c t0 S g (ss j0) (os j0) n0 → Runs handRout S (ss j0) xs S' s' →
    ∃ g' os' n', All c ts S' g' (fun j => if j = j0 then s' else ss j) os' ∧ HSt c t0 S' g' s' (os' j0) n' ∧ n' + xs.length ≤ n0 ∧ S'.last ≤ S.last + xs.length ∧ (∀ j, j ≠ j0 → os' j = os j)
  | [], S, S', g, n0, ss, os, s', h, hn, hr => by
    obtain ⟨rfl, rfl⟩ := hr
    exact ⟨g, os, n0, h.congr fun j => by split; rename_i e; rw [e]; rfl, hn, by simp, by simp, fun _ _ => rfl⟩
  | x :: xs, S, S', g, n0, ss, os, s', h, hn, hr => by
    obtain ⟨hcan, r, hx, hr⟩ := hr
    have hne : (ss j0).part ≠ 4 := fun h4 => by
      have e : handRout.act (ss j0) = (noAct, false) := by show PHand.act (ss j0) = _; simp [PHand.act, h4]
      unfold Rout.can at hcan
      rw [e] at hcan
      cases hcan
    obtain ⟨y, hy, _, hstep⟩ := h.step hc hts hj hn hne
    have e : handRout.act (ss j0) = (y, true) := hy
    rw [e] at hr
    obtain ⟨g1, os1, n1, k1, k2, k3, k4, k5⟩ := hstep r
    have hr' : Runs handRout (S.act y r).2 ((fun j => if j = j0 then (ss j0).take (S.act y r).1 else ss j) j0) xs S' s' := by
      show Runs handRout (S.act y r).2 (if j0 = j0 then _ else _) xs S' s'
      rw [if_pos rfl]
      exact hr
    have k2' : HSt c t0 (S.act y r).2 g1 ((fun j => if j = j0 then (ss j0).take (S.act y r).1 else ss j) j0) (os1 j0) n1 := by
      show HSt c t0 _ g1 (if j0 = j0 then _ else _) _ _
      rw [if_pos rfl]
      exact k2
    obtain ⟨g2, os2, n2, m1, m2, m3, m4, m5⟩ := All.runs hc hts hj xs k1 k2' hr'
    refine ⟨g2, os2, n2, m1.congr fun j => ?_, m2, by simp only [List.length_cons]; omega, by simp only [List.length_cons]; omega, fun j hj' => (m5 j hj').trans (k5 j hj')⟩
    split
    · rfl
    · rfl
theorem hand_stop {c : PCfg} (hc : c.Right) {t : ByteArray} (ht : t.size ≤ 4096) {S : PHeap} {g : Nat} {s : PHand} {o : Option Nat} {n : Nat} (hf : Ticks c S g) (h : HSt c t S g s o n) (hcan : handRout.can S s = false) : s.part = 4 := by
  rcases Classical.em (s.part = 4) with h4 | h4
  · exact h4
  · obtain ⟨x, hx⟩ := hand_step hc ht hf h h4
    have e : handRout.act s = (x, true) := hx.act
    unfold Rout.can at hcan
    rw [e, show S.ready (x, true).1 = true from hx.ready] at hcan
    cases hcan
/-- At the end: as many are in as there is room for. -/
theorem All.done {c : PCfg} {ts : List ByteArray} {S : PHeap} {g : Nat} {ss : Nat → PHand} {os : Nat → Option Nat} (h : All c ts S g ss os) (hd : ∀ j, j < ts.length → (ss j).part = 4) : (cntO os ts.length : Int) = min (ts.length : Int) c.cap := by
  have hle := h.fs.le
  have hn := cntO_le os ts.length
  rw [h.cnt] at hn ⊢
  by_cases hall : ∀ j, j < ts.length → (os j).isSome = true
  · have := cntO_all ts.length hall
    rw [h.cnt] at this
    omega
  · have : ∃ j, j < ts.length ∧ os j = none := by
      apply Classical.byContradiction
      intro hno
      refine hall fun j hj => ?_
      cases ho : os j with
      | none => exact absurd ⟨j, hj, ho⟩ hno
      | some k => rfl
    obtain ⟨j, hj, ho⟩ := this
    obtain ⟨n, hs⟩ := h.each j _ (List.getElem?_eq_getElem hj)
    have hp := hd j hj
    rw [ho] at hs
    generalize ss j = s at *
    cases hs with
    | p1 => cases hp
    | p2 => cases hp
    | p5 _ h2 => omega
end Go.Proofs.Ytfelkkbgbgnpaaa
