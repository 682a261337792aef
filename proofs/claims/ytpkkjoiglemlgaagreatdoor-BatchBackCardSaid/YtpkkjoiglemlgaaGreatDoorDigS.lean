import Derived.Lib.ParseIntBCases
import Derived.Lib.ItoaMem
import Derived.Lib.ItoaLen
import Derived.Lib.IndexBytes
import Derived.Test.YtpkkjoiglemlgaaGreatDoorQuoteP
import Derived.Test.YtpkkjoiglemlgaaGreatDoorIdR
/-
  Digits plainly (layer 3): the first byte that can't stand, a text's number, a number within bounds; names' texts (layer 12). No model.
-/
namespace Go.Proofs.YtpkkjoiglemlgaaGreatDoor
set_option linter.unusedVariables false

def dgt (c : UInt8) : Bool := decide (48 ≤ c.toNat) && decide (c.toNat ≤ 57)
/-- The byte at place i can't stand there; f: where the digits begin. -/
def badAt (l : List UInt8) (f i : Nat) : Bool := !dgt (l.getD i 0) || (l.getD f 0 == 48 && (decide (f < i) || f == 1))
def scan (l : List UInt8) (f i : Nat) : Int := if _h : i < l.length then (if badAt l f i then (i : Int) else scan l f (i + 1)) else -1
termination_by l.length - i
def dFrom (l : List UInt8) : Nat := if l.head? = some 45 then 1 else 0
/-- The first byte that can't stand where it does; -1: there is none. -/
def mis (l : List UInt8) : Int := if dFrom l = l.length then (dFrom l : Int) else scan l (dFrom l) (dFrom l)
theorem scan_hit {l : List UInt8} {f i : Nat} (h : i < l.length) (hb : badAt l f i = true) : scan l f i = i := by rw [scan, dif_pos h, if_pos hb]
theorem scan_go {l : List UInt8} {f i : Nat} (h : i < l.length) (hb : badAt l f i = false) : scan l f i = scan l f (i + 1) := by rw [scan, dif_pos h, if_neg (by rw [hb]; decide)]
theorem scan_end {l : List UInt8} {f i : Nat} (h : ¬ i < l.length) : scan l f i = -1 := by rw [scan, dif_neg h]
theorem scan_range (l : List UInt8) (f : Nat) : ∀ k i : Nat, l.length - i = k → -1 ≤ scan l f i ∧ scan l f i < l.length := by
  intro k
  induction k with
  | zero => intro i h; rw [scan_end (by omega)]; omega
  | succ k ih =>
    intro i h
    by_cases hb : badAt l f i = true
    · rw [scan_hit (by omega) hb]; omega
    · rw [scan_go (by omega) (by simpa using hb)]; exact ih (i + 1) (by omega)
theorem dFrom_le (l : List UInt8) : dFrom l ≤ l.length := by
  unfold dFrom
  cases l with
  | nil => simp
  | cons c l => simp; split <;> omega
theorem dFrom_1 (l : List UInt8) : dFrom l ≤ 1 := by unfold dFrom; split <;> omega
theorem mis_range (l : List UInt8) : -1 ≤ mis l ∧ mis l ≤ l.length := by
  unfold mis
  have h := dFrom_le l
  split
  · omega
  · have := scan_range l (dFrom l) _ (dFrom l) rfl
    omega
theorem scan_none {l : List UInt8} {f : Nat} : ∀ k i : Nat, l.length - i = k → (scan l f i = -1 ↔ ∀ j, i ≤ j → j < l.length → badAt l f j = false) := by
  intro k
  induction k with
  | zero => intro i h; rw [scan_end (by omega)]; exact ⟨fun _ j _ _ => by omega, fun _ => rfl⟩
  | succ k ih =>
    intro i h
    by_cases hb : badAt l f i = true
    · rw [scan_hit (by omega) hb]
      exact ⟨fun h => by omega, fun h => by rw [h i (Nat.le_refl _) (by omega)] at hb; cases hb⟩
    · have hb : badAt l f i = false := by simpa using hb
      rw [scan_go (by omega) hb, ih (i + 1) (by omega)]
      exact ⟨fun h j h1 h2 => by rcases Nat.eq_or_lt_of_le h1 with rfl | h3; exact hb; exact h j h3 h2, fun h j h1 h2 => h j (by omega) h2⟩
/-- The number that digits tell. -/
def dval (l : List UInt8) : Nat := l.foldl (fun a c => a * 10 + (c.toNat - 48)) 0
def dvalF (a : Nat) (l : List UInt8) : Nat := l.foldl (fun a c => a * 10 + (c.toNat - 48)) a
theorem dvalF_ge (l : List UInt8) : ∀ a, a ≤ dvalF a l := by
  unfold dvalF
  induction l with
  | nil => intro a; exact Nat.le_refl _
  | cons c l ih => intro a; rw [List.foldl_cons]; have := ih (a * 10 + (c.toNat - 48)); omega
theorem uintM_digits {M : Nat} (hM : M = 18446744073709551615) : ∀ (l : List UInt8) (a : Nat), (∀ c ∈ l, dgt c = true) → a ≤ M → Lib.parseUintM M a l = if dvalF a l ≤ M then .ok (dvalF a l) else .range := by
  intro l
  induction l with
  | nil => intro a _ h; simp [Lib.parseUintM, dvalF, h]
  | cons c l ih =>
    intro a hd ha
    have hc := hd c (by simp)
    unfold dgt at hc
    simp at hc
    have hge := dvalF_ge l (a * 10 + (c.toNat - 48))
    have e : dvalF a (c :: l) = dvalF (a * 10 + (c.toNat - 48)) l := rfl
    rw [e]
    simp only [Lib.parseUintM]
    rw [if_pos hc]
    by_cases h1 : 1844674407370955162 ≤ a
    · rw [if_pos h1, if_neg (by omega)]
    · rw [if_neg h1]
      by_cases h2 : M < a * 10 + (c.toNat - 48)
      · rw [if_pos h2, if_neg (by omega)]
      · rw [if_neg h2, ih _ (fun c h => hd c (by simp [h])) (by omega)]
/-- A text's number, a code and its place. -/
def pnum (l : List UInt8) : Int × Int × Int :=
  if 0 ≤ mis l then (0, 1, mis l)
  else if dFrom l = 1 then (if dval (l.drop 1) ≤ 9223372036854775808 then (-(dval (l.drop 1) : Int), 0, 0) else (0, 4, 0))
  else if dval l ≤ 9223372036854775807 then ((dval l : Int), 0, 0) else (0, 4, 0)
theorem mis_shape {l : List UInt8} (h : mis l = -1) : dFrom l < l.length ∧ (∀ j, dFrom l ≤ j → j < l.length → badAt l (dFrom l) j = false) := by
  unfold mis at h
  have := dFrom_le l
  split at h
  · omega
  · exact ⟨by omega, (scan_none _ _ rfl).1 h⟩
theorem mis_digits {l : List UInt8} (h : mis l = -1) : ∀ c ∈ l.drop (dFrom l), dgt c = true := by
  intro c hc
  obtain ⟨i, hi, rfl⟩ := List.getElem_of_mem hc
  have h2 := (mis_shape h).2 (dFrom l + i) (by omega) (by simp at hi; omega)
  unfold badAt at h2
  simp only [Bool.or_eq_false_iff, Bool.not_eq_false'] at h2
  rw [List.getElem_drop]
  have h3 := h2.1
  rw [List.getD_eq_getElem?_getD, List.getElem?_eq_getElem (by simp at hi; omega)] at h3
  exact h3
theorem fin_minus (d : Nat) : Lib.signedC 9223372036854775808 (if d ≤ 18446744073709551615 then .ok d else .range) = if d ≤ 9223372036854775808 then .ok (-(d : Int)) else .range := by
  by_cases h1 : d ≤ 9223372036854775808
  · rw [if_pos h1, if_pos (show d ≤ 18446744073709551615 by omega)]
    show (if _ then _ else _) = _
    rw [if_neg (show ¬ 9223372036854775808 < d by omega)]
  · rw [if_neg h1]
    by_cases h2 : d ≤ 18446744073709551615
    · rw [if_pos h2]
      show (if _ then _ else _) = _
      rw [if_pos (show 9223372036854775808 < d by omega)]
    · rw [if_neg h2]; rfl
theorem fin_plain (d : Nat) : Lib.signlessC 9223372036854775808 (if d ≤ 18446744073709551615 then .ok d else .range) = if d ≤ 9223372036854775807 then .ok (d : Int) else .range := by
  by_cases h1 : d ≤ 9223372036854775807
  · rw [if_pos h1, if_pos (show d ≤ 18446744073709551615 by omega)]
    show (if _ then _ else _) = _
    rw [if_neg (show ¬ 9223372036854775808 ≤ d by omega)]
  · rw [if_neg h1]
    by_cases h2 : d ≤ 18446744073709551615
    · rw [if_pos h2]
      show (if _ then _ else _) = _
      rw [if_pos (show 9223372036854775808 ≤ d by omega)]
    · rw [if_neg h2]; rfl
theorem rng_if (c : Prop) [Decidable c] (x : Int) : (if ((if c then (x, 0, 0) else (0, 4, 0) : Int × Int × Int)).2.1 = 0 then Lib.NumEnd.ok ((if c then (x, 0, 0) else (0, 4, 0) : Int × Int × Int)).1 else .range) = if c then .ok x else .range := by
  by_cases h : c
  · rw [if_pos h, if_pos h, if_pos rfl]
  · rw [if_neg h, if_neg h, if_neg (by decide)]
theorem pnum_intB {l : List UInt8} (h : mis l = -1) : Lib.parseIntB 64 l = if (pnum l).2.1 = 0 then .ok (pnum l).1 else .range := by
  have hd := mis_digits h
  have hs := (mis_shape h).1
  have e64 : (2 : Nat) ^ 64 - 1 = 18446744073709551615 := by decide
  have e63 : (2 : Nat) ^ (64 - 1) = 9223372036854775808 := by decide
  have ep : pnum l = if dFrom l = 1 then (if dval (l.drop 1) ≤ 9223372036854775808 then (-(dval (l.drop 1) : Int), 0, 0) else (0, 4, 0)) else if dval l ≤ 9223372036854775807 then ((dval l : Int), 0, 0) else (0, 4, 0) := by
    unfold pnum
    rw [if_neg (by omega)]
  cases l with
  | nil => simp at hs
  | cons c r =>
    by_cases hc : c = 45
    · subst hc
      have hf : dFrom (45 :: r) = 1 := rfl
      rw [hf] at hd hs
      have hr : r ≠ [] := by intro e; subst e; simp at hs
      rw [hf] at ep
      rw [if_pos rfl, List.drop_one, List.tail_cons] at ep
      rw [Lib.parseIntB_minus, ep, rng_if]
      unfold Lib.parseUintB
      rw [if_neg hr, uintM_digits e64 r 0 hd (Nat.zero_le _), e63, e64]
      exact fin_minus (dval r)
    · have hf : dFrom (c :: r) = 0 := by unfold dFrom; simp [hc]
      rw [hf] at hd hs
      have hc0 := hd c (by simp)
      unfold dgt at hc0
      simp at hc0
      have hz : dFrom (c :: r) ≠ 1 := by rw [hf]; decide
      rw [if_neg hz] at ep
      rw [Lib.parseIntB_plain 64 c r (by omega) (by omega), ep, rng_if]
      unfold Lib.parseUintB
      rw [if_neg (by simp), uintM_digits e64 (c :: r) 0 hd (Nat.zero_le _), e63, e64]
      exact fin_plain (dval (c :: r))
theorem pnum_codes (l : List UInt8) : ((pnum l).2.1 = 0 ∧ -9223372036854775808 ≤ (pnum l).1 ∧ (pnum l).1 ≤ 9223372036854775807 ∧ (pnum l).2.2 = 0 ∧ mis l = -1) ∨ (pnum l).2.1 = 1 ∧ (pnum l) = (0, 1, mis l) ∧ 0 ≤ mis l ∨ (pnum l).2.1 = 4 ∧ pnum l = (0, 4, 0) ∧ mis l = -1 := by
  have hr := mis_range l
  unfold pnum
  split
  · exact .inr (.inl ⟨rfl, rfl, by assumption⟩)
  · split
    · split
      · exact .inl ⟨rfl, by simp only; omega, by simp only; omega, rfl, by omega⟩
      · exact .inr (.inr ⟨rfl, rfl, by omega⟩)
    · split
      · exact .inl ⟨rfl, by simp only; omega, by simp only; omega, rfl, by omega⟩
      · exact .inr (.inr ⟨rfl, rfl, by omega⟩)
/-- A number within bounds. -/
def pwith (lo hi : Int) (l : List UInt8) : Int × Int × Int := if (pnum l).2.1 = 0 ∧ ((pnum l).1 < lo ∨ hi < (pnum l).1) then (0, 4, 0) else pnum l
/-- A name's text: the name, a code, its place, and which number it is of. -/
def pId (l : List UInt8) : (Int × Int) × Int × Int × Int :=
  let k := Lib.index l [46]
  if k = -1 then ((0, 0), 1, (l.length : Int), -1)
  else
    let a := pwith 0 255 (l.take k.toNat)
    let b := pwith 1 4294967296 (l.drop (k.toNat + 1))
    if a.2.1 ≠ 0 then ((0, 0), a.2.1, a.2.2, 0)
    else if b.2.1 ≠ 0 then ((0, 0), b.2.1, b.2.2, 1)
    else ((a.1, b.1), 0, 0, -1)

/-! ### numbers' texts -/
def dchr (n : Nat) : UInt8 := UInt8.ofNat (48 + n % 10)
theorem dchr_nat (n : Nat) : (dchr n).toNat = 48 + n % 10 := by unfold dchr; simp; omega
theorem ddec_small {n : Nat} (h : n < 10) : Lib.decDigits n = [dchr n] := by
  unfold dchr
  rw [Lib.decDigits, dif_pos h, Nat.mod_eq_of_lt h]
theorem ddec_big {n : Nat} (h : ¬ n < 10) : Lib.decDigits n = Lib.decDigits (n / 10) ++ [dchr n] := by
  unfold dchr
  rw [Lib.decDigits, dif_neg h]
theorem ddec_facts (n : Nat) : (∀ c ∈ Lib.decDigits n, dgt c = true) ∧ dval (Lib.decDigits n) = n ∧ Lib.decDigits n ≠ [] ∧ ((Lib.decDigits n).head? = some 48 → n = 0) := by
  induction n using Nat.strongRecOn with
  | _ n ih =>
    by_cases h : n < 10
    · rw [ddec_small h]
      refine ⟨fun c hc => ?_, ?_, by simp, fun h0 => ?_⟩
      · simp at hc; subst hc
        unfold dgt
        rw [dchr_nat]
        simp; omega
      · unfold dval
        simp only [List.foldl_cons, List.foldl_nil]
        rw [dchr_nat]; omega
      · simp at h0
        have := congrArg UInt8.toNat h0
        rw [dchr_nat] at this
        have e : (48 : UInt8).toNat = 48 := rfl
        omega
    · obtain ⟨h1, h2, h3, h4⟩ := ih (n / 10) (by omega)
      rw [ddec_big h]
      refine ⟨fun c hc => ?_, ?_, by simp, fun h0 => ?_⟩
      · rw [List.mem_append] at hc
        rcases hc with hc | hc
        · exact h1 c hc
        · simp at hc; subst hc
          unfold dgt
          rw [dchr_nat]
          simp; omega
      · unfold dval at h2 ⊢
        rw [List.foldl_append, h2]
        simp only [List.foldl_cons, List.foldl_nil]
        rw [dchr_nat]; omega
      · have e : (Lib.decDigits (n / 10) ++ [dchr n]).head? = (Lib.decDigits (n / 10)).head? := by
          cases hq : Lib.decDigits (n / 10) with
          | nil => exact absurd hq h3
          | cons c r => rfl
        rw [e] at h0
        have := h4 h0
        omega
theorem dgt_not {c : UInt8} (h : dgt c = true) (d : UInt8) (hd : dgt d = false) : c ≠ d := by intro e; subst e; rw [h] at hd; cases hd
theorem mis_dec (n : Nat) : mis (Lib.decDigits n) = -1 := by
  obtain ⟨h1, h2, h3, h4⟩ := ddec_facts n
  have hf : dFrom (Lib.decDigits n) = 0 := by
    unfold dFrom
    rw [if_neg]
    intro h
    have : (45 : UInt8) ∈ Lib.decDigits n := List.mem_of_head? h
    have := h1 _ this
    revert this; decide
  have hl : 0 < (Lib.decDigits n).length := List.length_pos_iff.2 h3
  unfold mis
  rw [hf, if_neg (by omega), scan_none _ 0 rfl]
  intro j _ hj
  unfold badAt
  rw [List.getD_eq_getElem?_getD, List.getElem?_eq_getElem hj]
  have hd := h1 _ (List.getElem_mem hj)
  rw [show (some (Lib.decDigits n)[j]).getD 0 = (Lib.decDigits n)[j] from rfl, hd]
  by_cases h0 : (Lib.decDigits n).head? = some 48
  · have := h4 h0
    subst this
    rw [ddec_small (by omega)] at hj
    simp at hj
    subst hj
    simp
  · have : ((Lib.decDigits n).getD 0 0 == 48) = false := by
      rw [beq_eq_false_iff_ne]
      intro e
      apply h0
      cases hq : Lib.decDigits n with
      | nil => exact absurd hq h3
      | cons c r => rw [hq] at e; simp at e; simp [e]
    rw [this]; rfl
theorem mis_neg {n : Nat} (hn : n ≠ 0) : mis (45 :: Lib.decDigits n) = -1 := by
  obtain ⟨h1, h2, h3, h4⟩ := ddec_facts n
  have hf : dFrom (45 :: Lib.decDigits n) = 1 := rfl
  have hl : 0 < (Lib.decDigits n).length := List.length_pos_iff.2 h3
  unfold mis
  rw [hf, if_neg (by simp; omega), scan_none _ 1 rfl]
  intro j hj0 hj
  obtain ⟨j, rfl⟩ : ∃ k, j = k + 1 := ⟨j - 1, by omega⟩
  simp at hj
  unfold badAt
  have e1 : (45 :: Lib.decDigits n).getD (j + 1) 0 = (Lib.decDigits n).getD j 0 := by simp
  have e2 : (45 :: Lib.decDigits n).getD 1 0 = (Lib.decDigits n).getD 0 0 := by simp
  rw [e1, e2, List.getD_eq_getElem?_getD, List.getElem?_eq_getElem hj]
  have hd := h1 _ (List.getElem_mem hj)
  rw [show (some (Lib.decDigits n)[j]).getD 0 = (Lib.decDigits n)[j] from rfl, hd]
  have : ((Lib.decDigits n).getD 0 0 == 48) = false := by
    rw [beq_eq_false_iff_ne]
    intro e
    apply hn
    apply h4
    cases hq : Lib.decDigits n with
    | nil => exact absurd hq h3
    | cons c r => rw [hq] at e; simp at e; simp [e]
  rw [this]; rfl
theorem pnum_itoa (n : Int) (h0 : -9223372036854775808 ≤ n) (h1 : n ≤ 9223372036854775807) : pnum (Lib.itoa n) = (n, 0, 0) := by
  by_cases hn : n < 0
  · obtain ⟨k, rfl⟩ : ∃ k : Nat, n = -(k : Int) := ⟨n.natAbs, by omega⟩
    rw [Lib.itoa_neg k (by omega)]
    unfold pnum
    rw [mis_neg (by omega), if_neg (by omega), show dFrom (45 :: Lib.decDigits k) = 1 from rfl, if_pos rfl, List.drop_one, List.tail_cons, (ddec_facts k).2.1, if_pos (by omega)]
  · obtain ⟨k, rfl⟩ : ∃ k : Nat, n = (k : Int) := ⟨n.toNat, by omega⟩
    rw [Lib.itoa_nonneg k]
    unfold pnum
    have hf : dFrom (Lib.decDigits k) ≠ 1 := by
      unfold dFrom
      rw [if_neg]
      · decide
      intro h
      have : (45 : UInt8) ∈ Lib.decDigits k := List.mem_of_head? h
      have := (ddec_facts k).1 _ this
      revert this; decide
    rw [mis_dec, if_neg (by omega), if_neg hf, (ddec_facts k).2.1, if_pos (by omega)]
theorem itoa_no46 (n : Int) : (46 : UInt8) ∉ Lib.itoa n := by
  intro h
  by_cases hn : n < 0
  · obtain ⟨k, rfl⟩ : ∃ k : Nat, n = -(k : Int) := ⟨n.natAbs, by omega⟩
    rw [Lib.itoa_neg k (by omega), List.mem_cons] at h
    rcases h with h | h
    · revert h; decide
    · have := (ddec_facts k).1 _ h
      revert this; decide
  · obtain ⟨k, rfl⟩ : ∃ k : Nat, n = (k : Int) := ⟨n.toNat, by omega⟩
    rw [Lib.itoa_nonneg k] at h
    have := (ddec_facts k).1 _ h
    revert this; decide
theorem index_first (c : UInt8) : ∀ (a b : List UInt8), c ∉ a → Lib.index (a ++ c :: b) [c] = a.length := by
  intro a
  induction a with
  | nil => intro b _; simp [Lib.index, List.isPrefixOf]
  | cons d a ih =>
    intro b h
    rw [List.mem_cons, not_or] at h
    have hp : ([c].isPrefixOf (d :: (a ++ c :: b))) = false := by simp [List.isPrefixOf]; exact h.1
    rw [List.cons_append, Lib.index, if_neg (by rw [hp]; decide), ih b h.2]
    have h1 : (((a.length : Nat) : Int) == -1) = false := by rw [beq_eq_false_iff_ne]; omega
    rw [h1]
    simp
def iTextP (p : Int × Int) : List UInt8 := (Lib.itoa p.1 ++ [46]) ++ Lib.itoa p.2
def i64ok (p : Int × Int) : Prop := (-9223372036854775808 ≤ p.1 ∧ p.1 ≤ 9223372036854775807) ∧ (-9223372036854775808 ≤ p.2 ∧ p.2 ≤ 9223372036854775807)
theorem iText_cut (p : Int × Int) : Lib.index (iTextP p) [46] = (Lib.itoa p.1).length ∧ (iTextP p).take (Lib.itoa p.1).length = Lib.itoa p.1 ∧ (iTextP p).drop ((Lib.itoa p.1).length + 1) = Lib.itoa p.2 := by
  unfold iTextP
  rw [List.append_assoc]
  refine ⟨index_first 46 _ _ (itoa_no46 _), by simp, by rw [← List.drop_drop]; simp⟩
theorem pwith_text (lo hi n : Int) (h0 : -9223372036854775808 ≤ n) (h1 : n ≤ 9223372036854775807) : pwith lo hi (Lib.itoa n) = if n < lo ∨ hi < n then (0, 4, 0) else (n, 0, 0) := by
  unfold pwith
  rw [pnum_itoa n h0 h1]
  by_cases c : n < lo ∨ hi < n
  · rw [if_pos ⟨rfl, c⟩, if_pos c]
  · rw [if_neg (fun h => c h.2), if_neg c]
theorem pId_form (p : Int × Int) : pId (iTextP p) = if (pwith 0 255 (Lib.itoa p.1)).2.1 ≠ 0 then ((0, 0), (pwith 0 255 (Lib.itoa p.1)).2.1, (pwith 0 255 (Lib.itoa p.1)).2.2, 0) else if (pwith 1 4294967296 (Lib.itoa p.2)).2.1 ≠ 0 then ((0, 0), (pwith 1 4294967296 (Lib.itoa p.2)).2.1, (pwith 1 4294967296 (Lib.itoa p.2)).2.2, 1) else (((pwith 0 255 (Lib.itoa p.1)).1, (pwith 1 4294967296 (Lib.itoa p.2)).1), 0, 0, -1) := by
  obtain ⟨h1, h2, h3⟩ := iText_cut p
  have hne : ¬ (((Lib.itoa p.1).length : Nat) : Int) = -1 := by omega
  unfold pId
  rw [h1]
  simp only [Int.toNat_natCast]
  rw [h2, h3, if_neg hne]
/-- A name that may be comes back of its text; -/
theorem pId_right (p : Int × Int) (h : i64ok p) (hr : 0 ≤ p.1 ∧ p.1 ≤ 255 ∧ 1 ≤ p.2 ∧ p.2 ≤ 4294967296) : pId (iTextP p) = (p, 0, 0, -1) := by
  rw [pId_form, pwith_text _ _ _ h.1.1 h.1.2, pwith_text _ _ _ h.2.1 h.2.2, if_neg (show ¬ (p.1 < 0 ∨ 255 < p.1) by omega), if_neg (show ¬ (p.2 < 1 ∨ 4294967296 < p.2) by omega)]
  rfl
/-- of one that may not, an error. -/
theorem pId_wrong (p : Int × Int) (h : i64ok p) (hr : ¬ (0 ≤ p.1 ∧ p.1 ≤ 255 ∧ 1 ≤ p.2 ∧ p.2 ≤ 4294967296)) : (pId (iTextP p)).2.1 = 4 := by
  rw [pId_form, pwith_text _ _ _ h.1.1 h.1.2, pwith_text _ _ _ h.2.1 h.2.2]
  by_cases c1 : p.1 < 0 ∨ 255 < p.1
  · rw [if_pos c1]; rfl
  · rw [if_neg c1, if_pos (show p.2 < 1 ∨ 4294967296 < p.2 by omega)]; rfl
theorem iText_inj {p q : Int × Int} (hp : i64ok p) (hq : i64ok q) (h : iTextP p = iTextP q) : p = q := by
  obtain ⟨a1, a2, a3⟩ := iText_cut p
  obtain ⟨b1, b2, b3⟩ := iText_cut q
  rw [← h] at b1 b2 b3
  have hl : (Lib.itoa p.1).length = (Lib.itoa q.1).length := by rw [a1] at b1; omega
  rw [hl] at a2 a3
  have e1 : Lib.itoa p.1 = Lib.itoa q.1 := by rw [← a2, b2]
  have e2 : Lib.itoa p.2 = Lib.itoa q.2 := by rw [← a3, b3]
  have f1 := congrArg pnum e1
  have f2 := congrArg pnum e2
  rw [pnum_itoa _ hp.1.1 hp.1.2, pnum_itoa _ hq.1.1 hq.1.2] at f1
  rw [pnum_itoa _ hp.2.1 hp.2.2, pnum_itoa _ hq.2.1 hq.2.2] at f2
  obtain ⟨x, y⟩ := p
  obtain ⟨x', y'⟩ := q
  injection f1 with f1 _
  injection f2 with f2 _
  simp only at f1 f2
  subst f1 f2
  rfl
end Go.Proofs.YtpkkjoiglemlgaaGreatDoor

/-
  digits.misfit and the document's form (layer 3): the first byte that can't stand. No condition. (Printed by tools/dm.py.)
-/
namespace Go.Proofs.YtpkkjoiglemlgaaGreatDoor
set_option linter.unusedVariables false
open Go.RowKit Go.Extern.Stop Go.Stop Go.Extern Go.ChangeShapes

theorem byte_lfD {s : ByteArray} {k : Nat} (h : k < s.size) : ∀ h : k < s.size, (s[k]'h).toNat = lf s.data.toList k := fun _ => by subst_vars; rw [lf_at (by rw [size_list_]; exact h)]; rfl
theorem badAt_iff (L : List UInt8) (f i : Nat) : badAt L f i = true ↔ (lf L i < 48 ∨ 57 < lf L i ∨ (lf L f = 48 ∧ (f < i ∨ f = 1))) := by
  have e : ∀ j, (L.getD j 0).toNat = lf L j := fun j => by unfold lf; rw [List.getD_eq_getElem?_getD]
  have e48 : (L.getD f 0 == 48) = decide (lf L f = 48) := by
    rw [← e f]
    by_cases h : L.getD f 0 = 48
    · rw [h]; rfl
    · have h2 : (L.getD f 0).toNat ≠ 48 := fun h3 => h (UInt8.toNat_inj.1 h3)
      rw [decide_eq_false h2, beq_eq_false_iff_ne]; exact h
  unfold badAt dgt
  rw [e i, e48]
  simp only [Bool.or_eq_true, Bool.not_eq_true', Bool.and_eq_true, Bool.and_eq_false_iff, decide_eq_true_eq, decide_eq_false_iff_not, beq_iff_eq]
  omega
theorem badAt_not {L : List UInt8} {f i : Nat} (h : ¬ (lf L i < 48 ∨ 57 < lf L i ∨ (lf L f = 48 ∧ (f < i ∨ f = 1)))) : badAt L f i = false := by
  cases hb : badAt L f i
  · rfl
  · exact absurd ((badAt_iff L f i).1 hb) h
theorem dFrom_lf (L : List UInt8) : dFrom L = if 0 < L.length ∧ lf L 0 = 45 then 1 else 0 := by
  cases L with
  | nil => rfl
  | cons c l =>
    unfold dFrom lf
    simp only [List.head?_cons, Option.some.injEq, List.length_cons, List.getElem?_cons_zero, Option.getD_some]
    by_cases h : c = 45
    · subst h; rfl
    · have h2 : c.toNat ≠ 45 := fun h3 => h (UInt8.toNat_inj.1 h3)
      rw [if_neg h, if_neg (fun h3 => h2 h3.2)]

set_option maxHeartbeats 2000000 in
set_option maxRecDepth 100000 in
theorem misfit_any (s : ByteArray) (hs : s.size ≤ 1000000) (w : World) :
    Calls Tryz.prog 101 #[.string s] w fun e w' => e = .returned (.int .i64 (mis s.data.toList)) ∧ Below w.heap.size w w' := by
  have hlen := size_list_ s
  generalize hL : s.data.toList = L at *
  have hf := dFrom_lf L
  have hb0 : ∀ h : 0 < s.size, (s[0]'h).toNat = lf L 0 := fun h => by rw [← hL]; exact byte_lfD h h
  replace hL := Lib.hid hL
  unfold mis
  by_cases h0 : s.size = 0
  · rw [if_neg (show ¬ (0 < L.length ∧ lf L 0 = 45) by omega)] at hf
    have hm : Hid ((if dFrom L = L.length then (dFrom L : Int) else scan L (dFrom L) (dFrom L)) = 0) := Lib.hid (by rw [hf, if_pos (show 0 = L.length by omega)]; rfl)
    obtain rfl : s = ⟨#[]⟩ := by cases s with | mk d => (have : d.size = 0 := h0; rw [Array.size_eq_zero_iff] at this; subst this; rfl)
    generalize (if dFrom L = L.length then (dFrom L : Int) else scan L (dFrom L) (dFrom L)) = M at *
    replace hf := Lib.hid hf
    clear hb0 hlen h0
    go_enter Tryz.func101, Tryz.ntmps101
    go_wp2_with fail
    go_ret
    exact ⟨by rw [hm.out]; rfl, Below.refl _ _⟩
  have hpos : 0 < s.size := by omega
  replace hb0 := hb0 hpos
  have hne : s.toList.isEmpty = false := by rw [List.isEmpty_eq_false_iff]; intro e; have h2 := congrArg List.length e; rw [Lib.toList_data, size_list_] at h2; exact absurd (h2.trans rfl : s.size = 0) (by omega)
  by_cases h45 : lf L 0 = 45
  · rw [if_pos ⟨by omega, h45⟩] at hf
    rw [h45] at hb0
    replace h45 := Lib.hid h45
    rw [hf]
    by_cases h1 : s.size = 1
    · have hm : Hid ((if 1 = L.length then ((1 : Nat) : Int) else scan L 1 1) = 1) := Lib.hid (by rw [if_pos (by omega)]; rfl)
      generalize (if 1 = L.length then ((1 : Nat) : Int) else scan L 1 1) = M at *
      have e1 : ((s.size : Nat) : Int) = 1 := by omega
      replace hf := Lib.hid hf
      go_enter Tryz.func101, Tryz.ntmps101
      go_wp2_with fail
      go_ret
      exact ⟨by rw [hm.out]; rfl, Below.refl _ _⟩
    · rw [if_neg (by omega)]
      generalize hM : scan L 1 1 = M at *
      replace hM := Lib.hid hM
      have e1 : ((1 : Int) == (s.size : Int)) = false := beq_eq_false_iff_ne.2 (by omega)
      replace hf := Lib.hid hf
      replace hlen := Lib.hid hlen
      go_enter Tryz.func101, Tryz.ntmps101
      go_wp2_with fail
      go_loopw [4] (fun i wr => ∃ k : Nat, i = .int .i64 k ∧ 1 ≤ k ∧ k ≤ s.size ∧ Hid (scan L 1 k = M) ∧ (1 < k → lf L 1 ≠ 48) ∧ Below w.heap.size w wr) (fun i _ => s.size + 1 - (intOf i).toNat)
      case atStart => exact ⟨1, rfl, Nat.le_refl _, by omega, hM, fun h => absurd h (by omega), by (repeat first | exact Below.refl _ _ | assumption | refine Below.drew ?_ | refine below_drewN ?_ _ | refine Below.more_ ?_ _ | refine Below.setCell ?_ (by first | exact Nat.le_refl _ | (simp; done) | (simp; omega)) _)⟩
      case round =>
        obtain ⟨k, rfl, hfk, hk, hsc, hz, hb⟩ := hrel
        by_cases hlt : k < s.size
        · have b0 := byte_lfD hlt
          rw [hL.out] at b0
          have hll : k < L.length := by rw [← hL.out, size_list_]; exact hlt
          have c256 := lf_lt L k
          have c256f := lf_lt L 1
          have h0s : 1 < s.size := by omega
          have bf := byte_lfD h0s
          rw [hL.out] at bf
          have hbad : (lf L k < 48 ∨ 57 < lf L k ∨ (lf L 1 = 48 ∧ (1 < k ∨ 1 = 1))) → Hid ((k : Int) = M) := fun h => Lib.hid ((scan_hit hll ((badAt_iff L 1 k).2 h)).symm.trans hsc.out)
          have hgo : ¬ (lf L k < 48 ∨ 57 < lf L k ∨ (lf L 1 = 48 ∧ (1 < k ∨ 1 = 1))) → Hid (scan L 1 (k + 1) = M) := fun h => Lib.hid ((scan_go hll (badAt_not h)).symm.trans hsc.out)
          clear hsc
          generalize hcc : lf L k = c at *
          generalize hff : lf L 1 = z at *
          replace hcc := Lib.hid hcc
          replace hff := Lib.hid hff
          have hkz : k = 1 → c = z := fun e => by rw [← hcc.out, ← hff.out, e]
          replace hkz := Lib.hid hkz
          by_cases q1 : c < 48
          · have d1 : decide ((c : Int) < 48) = true := decide_eq_true (by omega)
            have hm := hbad (by omega)
            clear hbad hgo
            go_wp2_with fail
            go_ret
            exact ⟨by rw [← hm.out]; rfl, hb⟩
          have d1 : decide ((c : Int) < 48) = false := decide_eq_false (by omega)
          by_cases q2 : 57 < c
          · have d2 : decide ((57 : Int) < (c : Int)) = true := decide_eq_true (by omega)
            have hm := hbad (by omega)
            clear hbad hgo
            go_wp2_with fail
            go_ret
            exact ⟨by rw [← hm.out]; rfl, hb⟩
          have d2 : decide ((57 : Int) < (c : Int)) = false := decide_eq_false (by omega)
          by_cases q3 : k = 1
          · obtain rfl := q3
            obtain rfl := hkz.out rfl
            by_cases q4 : c = 48
            · subst q4
              have hm := hbad (by omega)
              clear hbad hgo
              go_wp2_with fail
              go_ret
              exact ⟨by rw [← hm.out]; rfl, hb⟩
            · have e4 : ((c : Int) == 48) = false := beq_eq_false_iff_ne.2 (by omega)
              have hm := hgo (by omega)
              clear hbad hgo
              go_wp2_with fail
              go_roundw
              case rel => exact ⟨1 + 1, by go_num, by omega, by omega, hm, fun _ => by omega, hb⟩
              case measure => simp [intOf] <;> omega
          have e3 : ((k : Int) == 1) = false := beq_eq_false_iff_ne.2 (by omega)
          by_cases q5 : k = 2
          · obtain rfl := q5
            by_cases q4 : z = 48
            · subst q4
              exact absurd rfl (hz (by omega))
            · have e4 : ((z : Int) == 48) = false := beq_eq_false_iff_ne.2 (by omega)
              have hm := hgo (by omega)
              clear hbad hgo
              go_wp2_with fail
              go_roundw
              case rel => exact ⟨2 + 1, by go_num, by omega, by omega, hm, fun _ => by omega, hb⟩
              case measure => simp [intOf] <;> omega
          have e5 : ((k : Int) == 2) = false := beq_eq_false_iff_ne.2 (by omega)
          have hz2 : z ≠ 48 := hz (by omega)
          have hm := hgo (by omega)
          clear hbad hgo
          go_wp2_with fail
          go_roundw
          case rel => exact ⟨k + 1, by go_num, by omega, by omega, hm, fun _ => by omega, hb⟩
          case measure => simp [intOf] <;> omega
        · obtain rfl : k = s.size := by omega
          have hm := Lib.hid ((scan_end (l := L) (f := 1) (i := s.size) (by rw [← hL.out, size_list_]; omega)).symm.trans hsc.out)
          replace hsc := Lib.hid hsc
          go_wp2_with fail
          go_ret
          exact ⟨by rw [← hm.out]; rfl, hb⟩
  · rw [if_neg (fun h => h45 h.2)] at hf
    have c256 := lf_lt L 0
    have e45 : ((lf L 0 : Int) == 45) = false := beq_eq_false_iff_ne.2 (by omega)
    rw [hf, if_neg (by omega)]
    generalize hM : scan L 0 0 = M at *
    replace hM := Lib.hid hM
    have e1 : ((0 : Int) == (s.size : Int)) = false := beq_eq_false_iff_ne.2 (by omega)
    replace hf := Lib.hid hf
    replace hlen := Lib.hid hlen
    go_enter Tryz.func101, Tryz.ntmps101
    go_wp2_with fail
    go_loopw [4] (fun i wr => ∃ k : Nat, i = .int .i64 k ∧ 0 ≤ k ∧ k ≤ s.size ∧ Hid (scan L 0 k = M) ∧ (1 < k → lf L 0 ≠ 48) ∧ Below w.heap.size w wr) (fun i _ => s.size + 1 - (intOf i).toNat)
    case atStart => exact ⟨0, rfl, Nat.le_refl _, by omega, hM, fun h => absurd h (by omega), by (repeat first | exact Below.refl _ _ | assumption | refine Below.drew ?_ | refine below_drewN ?_ _ | refine Below.more_ ?_ _ | refine Below.setCell ?_ (by first | exact Nat.le_refl _ | (simp; done) | (simp; omega)) _)⟩
    case round =>
      obtain ⟨k, rfl, hfk, hk, hsc, hz, hb⟩ := hrel
      by_cases hlt : k < s.size
      · have b0 := byte_lfD hlt
        rw [hL.out] at b0
        have hll : k < L.length := by rw [← hL.out, size_list_]; exact hlt
        have c256 := lf_lt L k
        have c256f := lf_lt L 0
        have h0s : 0 < s.size := by omega
        have bf := byte_lfD h0s
        rw [hL.out] at bf
        have hbad : (lf L k < 48 ∨ 57 < lf L k ∨ (lf L 0 = 48 ∧ (0 < k ∨ 0 = 1))) → Hid ((k : Int) = M) := fun h => Lib.hid ((scan_hit hll ((badAt_iff L 0 k).2 h)).symm.trans hsc.out)
        have hgo : ¬ (lf L k < 48 ∨ 57 < lf L k ∨ (lf L 0 = 48 ∧ (0 < k ∨ 0 = 1))) → Hid (scan L 0 (k + 1) = M) := fun h => Lib.hid ((scan_go hll (badAt_not h)).symm.trans hsc.out)
        clear hsc
        generalize hcc : lf L k = c at *
        generalize hff : lf L 0 = z at *
        replace hcc := Lib.hid hcc
        replace hff := Lib.hid hff
        have hkz : k = 0 → c = z := fun e => by rw [← hcc.out, ← hff.out, e]
        replace hkz := Lib.hid hkz
        by_cases q1 : c < 48
        · have d1 : decide ((c : Int) < 48) = true := decide_eq_true (by omega)
          have hm := hbad (by omega)
          clear hbad hgo
          go_wp2_with fail
          go_ret
          exact ⟨by rw [← hm.out]; rfl, hb⟩
        have d1 : decide ((c : Int) < 48) = false := decide_eq_false (by omega)
        by_cases q2 : 57 < c
        · have d2 : decide ((57 : Int) < (c : Int)) = true := decide_eq_true (by omega)
          have hm := hbad (by omega)
          clear hbad hgo
          go_wp2_with fail
          go_ret
          exact ⟨by rw [← hm.out]; rfl, hb⟩
        have d2 : decide ((57 : Int) < (c : Int)) = false := decide_eq_false (by omega)
        by_cases q3 : k = 0
        · obtain rfl := q3
          obtain rfl := hkz.out rfl
          by_cases q4 : c = 48
          · subst q4
            have hm := hgo (by omega)
            clear hbad hgo
            go_wp2_with fail
            go_roundw
            case rel => exact ⟨0 + 1, by go_num, by omega, by omega, hm, fun _ => by omega, hb⟩
            case measure => simp [intOf] <;> omega
          · have e4 : ((c : Int) == 48) = false := beq_eq_false_iff_ne.2 (by omega)
            have hm := hgo (by omega)
            clear hbad hgo
            go_wp2_with fail
            go_roundw
            case rel => exact ⟨0 + 1, by go_num, by omega, by omega, hm, fun _ => by omega, hb⟩
            case measure => simp [intOf] <;> omega
        have e3 : ((k : Int) == 0) = false := beq_eq_false_iff_ne.2 (by omega)
        by_cases q5 : k = 1
        · obtain rfl := q5
          by_cases q4 : z = 48
          · subst q4
            have hm := hbad (by omega)
            clear hbad hgo
            go_wp2_with fail
            go_ret
            exact ⟨by rw [← hm.out]; rfl, hb⟩
          · have e4 : ((z : Int) == 48) = false := beq_eq_false_iff_ne.2 (by omega)
            have hm := hgo (by omega)
            clear hbad hgo
            go_wp2_with fail
            go_roundw
            case rel => exact ⟨1 + 1, by go_num, by omega, by omega, hm, fun _ => by omega, hb⟩
            case measure => simp [intOf] <;> omega
        have e5 : ((k : Int) == 1) = false := beq_eq_false_iff_ne.2 (by omega)
        have hz2 : z ≠ 48 := hz (by omega)
        have hm := hgo (by omega)
        clear hbad hgo
        go_wp2_with fail
        go_roundw
        case rel => exact ⟨k + 1, by go_num, by omega, by omega, hm, fun _ => by omega, hb⟩
        case measure => simp [intOf] <;> omega
      · obtain rfl : k = s.size := by omega
        have hm := Lib.hid ((scan_end (l := L) (f := 0) (i := s.size) (by rw [← hL.out, size_list_]; omega)).symm.trans hsc.out)
        replace hsc := Lib.hid hsc
        go_wp2_with fail
        go_ret
        exact ⟨by rw [← hm.out]; rfl, hb⟩
set_option maxHeartbeats 2000000 in
set_option maxRecDepth 100000 in
theorem form_any (s : ByteArray) (hs : s.size ≤ 1000000) (w : World) :
    Calls Tryz.prog 103 #[.string s] w fun e w' => e = .returned (.int .i64 (mis s.data.toList)) ∧ Below w.heap.size w w' := by
  have hlen := size_list_ s
  generalize hL : s.data.toList = L at *
  have hf := dFrom_lf L
  have hb0 : ∀ h : 0 < s.size, (s[0]'h).toNat = lf L 0 := fun h => by rw [← hL]; exact byte_lfD h h
  replace hL := Lib.hid hL
  unfold mis
  by_cases h0 : s.size = 0
  · rw [if_neg (show ¬ (0 < L.length ∧ lf L 0 = 45) by omega)] at hf
    have hm : Hid ((if dFrom L = L.length then (dFrom L : Int) else scan L (dFrom L) (dFrom L)) = 0) := Lib.hid (by rw [hf, if_pos (show 0 = L.length by omega)]; rfl)
    obtain rfl : s = ⟨#[]⟩ := by cases s with | mk d => (have : d.size = 0 := h0; rw [Array.size_eq_zero_iff] at this; subst this; rfl)
    generalize (if dFrom L = L.length then (dFrom L : Int) else scan L (dFrom L) (dFrom L)) = M at *
    replace hf := Lib.hid hf
    clear hb0 hlen h0
    go_enter Tryz.func103, Tryz.ntmps103
    go_wp2_with fail
    go_ret
    exact ⟨by rw [hm.out]; rfl, Below.refl _ _⟩
  have hpos : 0 < s.size := by omega
  replace hb0 := hb0 hpos
  have hgt : decide ((0 : Int) < (s.size : Int)) = true := decide_eq_true (by omega)
  by_cases h45 : lf L 0 = 45
  · rw [if_pos ⟨by omega, h45⟩] at hf
    rw [h45] at hb0
    replace h45 := Lib.hid h45
    rw [hf]
    by_cases h1 : s.size = 1
    · have hm : Hid ((if 1 = L.length then ((1 : Nat) : Int) else scan L 1 1) = 1) := Lib.hid (by rw [if_pos (by omega)]; rfl)
      generalize (if 1 = L.length then ((1 : Nat) : Int) else scan L 1 1) = M at *
      have e1 : ((s.size : Nat) : Int) = 1 := by omega
      replace hf := Lib.hid hf
      go_enter Tryz.func103, Tryz.ntmps103
      go_wp2_with fail
      go_ret
      exact ⟨by rw [hm.out]; rfl, Below.refl _ _⟩
    · rw [if_neg (by omega)]
      generalize hM : scan L 1 1 = M at *
      replace hM := Lib.hid hM
      have e1 : ((1 : Int) == (s.size : Int)) = false := beq_eq_false_iff_ne.2 (by omega)
      replace hf := Lib.hid hf
      replace hlen := Lib.hid hlen
      go_enter Tryz.func103, Tryz.ntmps103
      go_wp2_with fail
      go_loopw [4] (fun i wr => ∃ k : Nat, i = .int .i64 k ∧ 1 ≤ k ∧ k ≤ s.size ∧ Hid (scan L 1 k = M) ∧ (1 < k → lf L 1 ≠ 48) ∧ Below w.heap.size w wr) (fun i _ => s.size + 1 - (intOf i).toNat)
      case atStart => exact ⟨1, rfl, Nat.le_refl _, by omega, hM, fun h => absurd h (by omega), by (repeat first | exact Below.refl _ _ | assumption | refine Below.drew ?_ | refine below_drewN ?_ _ | refine Below.more_ ?_ _ | refine Below.setCell ?_ (by first | exact Nat.le_refl _ | (simp; done) | (simp; omega)) _)⟩
      case round =>
        obtain ⟨k, rfl, hfk, hk, hsc, hz, hb⟩ := hrel
        by_cases hlt : k < s.size
        · have b0 := byte_lfD hlt
          rw [hL.out] at b0
          have hll : k < L.length := by rw [← hL.out, size_list_]; exact hlt
          have c256 := lf_lt L k
          have c256f := lf_lt L 1
          have h0s : 1 < s.size := by omega
          have bf := byte_lfD h0s
          rw [hL.out] at bf
          have hbad : (lf L k < 48 ∨ 57 < lf L k ∨ (lf L 1 = 48 ∧ (1 < k ∨ 1 = 1))) → Hid ((k : Int) = M) := fun h => Lib.hid ((scan_hit hll ((badAt_iff L 1 k).2 h)).symm.trans hsc.out)
          have hgo : ¬ (lf L k < 48 ∨ 57 < lf L k ∨ (lf L 1 = 48 ∧ (1 < k ∨ 1 = 1))) → Hid (scan L 1 (k + 1) = M) := fun h => Lib.hid ((scan_go hll (badAt_not h)).symm.trans hsc.out)
          clear hsc
          generalize hcc : lf L k = c at *
          generalize hff : lf L 1 = z at *
          replace hcc := Lib.hid hcc
          replace hff := Lib.hid hff
          have hkz : k = 1 → c = z := fun e => by rw [← hcc.out, ← hff.out, e]
          replace hkz := Lib.hid hkz
          by_cases q1 : c < 48
          · have d1 : decide ((c : Int) < 48) = true := decide_eq_true (by omega)
            have hm := hbad (by omega)
            clear hbad hgo
            go_wp2_with fail
            go_ret
            exact ⟨by rw [← hm.out]; rfl, hb⟩
          have d1 : decide ((c : Int) < 48) = false := decide_eq_false (by omega)
          by_cases q2 : 57 < c
          · have d2 : decide ((57 : Int) < (c : Int)) = true := decide_eq_true (by omega)
            have hm := hbad (by omega)
            clear hbad hgo
            go_wp2_with fail
            go_ret
            exact ⟨by rw [← hm.out]; rfl, hb⟩
          have d2 : decide ((57 : Int) < (c : Int)) = false := decide_eq_false (by omega)
          by_cases q4 : z = 48
          · subst q4
            by_cases q3 : 1 < k
            · have e3 : decide ((1 : Int) < (k : Int)) = true := decide_eq_true (by omega)
              have hm := hbad (by omega)
              clear hbad hgo
              go_wp2_with fail
              go_ret
              exact ⟨by rw [← hm.out]; rfl, hb⟩
            · have e3 : decide ((1 : Int) < (k : Int)) = false := decide_eq_false (by omega)
              have hm := hbad (by omega)
              clear hbad hgo
              go_wp2_with fail
              go_ret
              exact ⟨by rw [← hm.out]; rfl, hb⟩
          have e4 : ((z : Int) == 48) = false := beq_eq_false_iff_ne.2 (by omega)
          have hm := hgo (by omega)
          clear hbad hgo
          go_wp2_with fail
          go_roundw
          case rel => exact ⟨k + 1, by go_num, by omega, by omega, hm, fun _ => by omega, hb⟩
          case measure => simp [intOf] <;> omega
        · obtain rfl : k = s.size := by omega
          have hm := Lib.hid ((scan_end (l := L) (f := 1) (i := s.size) (by rw [← hL.out, size_list_]; omega)).symm.trans hsc.out)
          replace hsc := Lib.hid hsc
          go_wp2_with fail
          go_ret
          exact ⟨by rw [← hm.out]; rfl, hb⟩
  · rw [if_neg (fun h => h45 h.2)] at hf
    have c256 := lf_lt L 0
    have e45 : ((lf L 0 : Int) == 45) = false := beq_eq_false_iff_ne.2 (by omega)
    rw [hf, if_neg (by omega)]
    generalize hM : scan L 0 0 = M at *
    replace hM := Lib.hid hM
    have e1 : ((0 : Int) == (s.size : Int)) = false := beq_eq_false_iff_ne.2 (by omega)
    replace hf := Lib.hid hf
    replace hlen := Lib.hid hlen
    go_enter Tryz.func103, Tryz.ntmps103
    go_wp2_with fail
    go_loopw [4] (fun i wr => ∃ k : Nat, i = .int .i64 k ∧ 0 ≤ k ∧ k ≤ s.size ∧ Hid (scan L 0 k = M) ∧ (1 < k → lf L 0 ≠ 48) ∧ Below w.heap.size w wr) (fun i _ => s.size + 1 - (intOf i).toNat)
    case atStart => exact ⟨0, rfl, Nat.le_refl _, by omega, hM, fun h => absurd h (by omega), by (repeat first | exact Below.refl _ _ | assumption | refine Below.drew ?_ | refine below_drewN ?_ _ | refine Below.more_ ?_ _ | refine Below.setCell ?_ (by first | exact Nat.le_refl _ | (simp; done) | (simp; omega)) _)⟩
    case round =>
      obtain ⟨k, rfl, hfk, hk, hsc, hz, hb⟩ := hrel
      by_cases hlt : k < s.size
      · have b0 := byte_lfD hlt
        rw [hL.out] at b0
        have hll : k < L.length := by rw [← hL.out, size_list_]; exact hlt
        have c256 := lf_lt L k
        have c256f := lf_lt L 0
        have h0s : 0 < s.size := by omega
        have bf := byte_lfD h0s
        rw [hL.out] at bf
        have hbad : (lf L k < 48 ∨ 57 < lf L k ∨ (lf L 0 = 48 ∧ (0 < k ∨ 0 = 1))) → Hid ((k : Int) = M) := fun h => Lib.hid ((scan_hit hll ((badAt_iff L 0 k).2 h)).symm.trans hsc.out)
        have hgo : ¬ (lf L k < 48 ∨ 57 < lf L k ∨ (lf L 0 = 48 ∧ (0 < k ∨ 0 = 1))) → Hid (scan L 0 (k + 1) = M) := fun h => Lib.hid ((scan_go hll (badAt_not h)).symm.trans hsc.out)
        clear hsc
        generalize hcc : lf L k = c at *
        generalize hff : lf L 0 = z at *
        replace hcc := Lib.hid hcc
        replace hff := Lib.hid hff
        have hkz : k = 0 → c = z := fun e => by rw [← hcc.out, ← hff.out, e]
        replace hkz := Lib.hid hkz
        by_cases q1 : c < 48
        · have d1 : decide ((c : Int) < 48) = true := decide_eq_true (by omega)
          have hm := hbad (by omega)
          clear hbad hgo
          go_wp2_with fail
          go_ret
          exact ⟨by rw [← hm.out]; rfl, hb⟩
        have d1 : decide ((c : Int) < 48) = false := decide_eq_false (by omega)
        by_cases q2 : 57 < c
        · have d2 : decide ((57 : Int) < (c : Int)) = true := decide_eq_true (by omega)
          have hm := hbad (by omega)
          clear hbad hgo
          go_wp2_with fail
          go_ret
          exact ⟨by rw [← hm.out]; rfl, hb⟩
        have d2 : decide ((57 : Int) < (c : Int)) = false := decide_eq_false (by omega)
        by_cases q4 : z = 48
        · subst q4
          by_cases q3 : 0 < k
          · have e3 : decide ((0 : Int) < (k : Int)) = true := decide_eq_true (by omega)
            have hm := hbad (by omega)
            clear hbad hgo
            go_wp2_with fail
            go_ret
            exact ⟨by rw [← hm.out]; rfl, hb⟩
          · have e3 : decide ((0 : Int) < (k : Int)) = false := decide_eq_false (by omega)
            have hm := hgo (by omega)
            clear hbad hgo
            go_wp2_with fail
            go_roundw
            case rel => exact ⟨k + 1, by go_num, by omega, by omega, hm, fun _ => by omega, hb⟩
            case measure => simp [intOf] <;> omega
        have e4 : ((z : Int) == 48) = false := beq_eq_false_iff_ne.2 (by omega)
        have hm := hgo (by omega)
        clear hbad hgo
        go_wp2_with fail
        go_roundw
        case rel => exact ⟨k + 1, by go_num, by omega, by omega, hm, fun _ => by omega, hb⟩
        case measure => simp [intOf] <;> omega
      · obtain rfl : k = s.size := by omega
        have hm := Lib.hid ((scan_end (l := L) (f := 0) (i := s.size) (by rw [← hL.out, size_list_]; omega)).symm.trans hsc.out)
        replace hsc := Lib.hid hsc
        go_wp2_with fail
        go_ret
        exact ⟨by rw [← hm.out]; rfl, hb⟩
end Go.Proofs.YtpkkjoiglemlgaaGreatDoor

/-
  The document's Parse and Within (layer 3), and Parse of a name (layer 12). No condition.
-/
namespace Go.Proofs.YtpkkjoiglemlgaaGreatDoor
set_option linter.unusedVariables false
open Go.RowKit Go.Extern.Stop Go.Stop Go.Extern Go.ChangeShapes

/-- The number of the digits from place f up to k. -/
def dpre (L : List UInt8) (f k : Nat) : Nat := dval ((L.drop f).take (k - f))
theorem dpre_0 (L : List UInt8) (f : Nat) : dpre L f f = 0 := by unfold dpre; simp [dval]
theorem dpre_s {L : List UInt8} {f k : Nat} (hf : f ≤ k) (hk : k < L.length) : dpre L f (k + 1) = dpre L f k * 10 + (lf L k - 48) := by
  unfold dpre
  rw [show k + 1 - f = (k - f) + 1 by omega, List.take_add_one, List.getElem?_drop, show f + (k - f) = k by omega, List.getElem?_eq_getElem hk]
  unfold dval
  rw [List.foldl_append, lf_at hk]
  rfl
theorem dpre_all {L : List UInt8} {f : Nat} : dpre L f L.length = dval (L.drop f) := by
  unfold dpre
  rw [List.take_of_length_le (by rw [List.length_drop]; omega)]
theorem dpre_mono {L : List UInt8} {f k : Nat} (hf : f ≤ k) : ∀ n, k + n ≤ L.length → dpre L f k ≤ dpre L f (k + n) := by
  intro n
  induction n with
  | zero => intro _; exact Nat.le_refl _
  | succ n ih =>
    intro h
    have h1 := ih (by omega)
    rw [show k + (n + 1) = (k + n) + 1 by omega, dpre_s (by omega) (by omega)]
    omega
theorem dpre_over {L : List UInt8} {f k : Nat} (hf : f ≤ k) (hk : k < L.length) (h : 9223372036854775808 < dpre L f k * 10 + (lf L k - 48)) : 9223372036854775808 < dval (L.drop f) := by
  have h1 := dpre_mono (L := L) (f := f) (k := k + 1) (by omega) (L.length - (k + 1)) (by omega)
  rw [dpre_s hf hk, show k + 1 + (L.length - (k + 1)) = L.length by omega, dpre_all] at h1
  omega
theorem mis_lf {L : List UInt8} (h : mis L = -1) {k : Nat} (hf : dFrom L ≤ k) (hk : k < L.length) : 48 ≤ lf L k ∧ lf L k ≤ 57 := by
  have h1 := mis_digits h (L[k]) (by
    rw [List.mem_iff_getElem]
    exact ⟨k - dFrom L, by rw [List.length_drop]; omega, by rw [List.getElem_drop]; congr 1; omega⟩)
  unfold dgt at h1
  rw [lf_at hk]
  simpa using h1
theorem mis_ne0 {L : List UInt8} (h : mis L = -1) (h1 : dFrom L = 1) : 1 ≤ dval (L.drop 1) := by
  obtain ⟨h2, h3⟩ := mis_shape h
  rw [h1] at h2 h3
  have h4 := h3 1 (Nat.le_refl _) h2
  have h5 : ¬ (lf L 1 < 48 ∨ 57 < lf L 1 ∨ (lf L 1 = 48 ∧ (1 < 1 ∨ 1 = 1))) := fun h => by rw [(badAt_iff L 1 1).2 h] at h4; cases h4
  have h6 := dpre_mono (L := L) (f := 1) (k := 2) (by omega) (L.length - 2) (by omega)
  rw [show 2 + (L.length - 2) = L.length by omega, dpre_all, dpre_s (by omega) h2, dpre_0] at h6
  omega
set_option maxHeartbeats 2000000 in
set_option maxRecDepth 100000 in
theorem refParse3_any (s : ByteArray) (hs : s.size ≤ 1000000) (w : World) :
    Calls Tryz.prog 70 #[.string s] w fun e w' => e = .returned (.tuple #[.int .i64 (pnum s.data.toList).1, .int .i64 (pnum s.data.toList).2.1, .int .i64 (pnum s.data.toList).2.2]) ∧ Below w.heap.size w w' := by
  have hlen := size_list_ s
  have hF := form_any s hs
  generalize hL : s.data.toList = L at *
  have hf := dFrom_lf L
  have hb0 : ∀ h : 0 < s.size, (s[0]'h).toNat = lf L 0 := fun h => by rw [← hL]; exact byte_lfD h h
  have hr := mis_range L
  replace hL := Lib.hid hL
  replace hF := Lib.hid hF
  by_cases hm : 0 ≤ mis L
  · have hP : pnum L = (0, 1, mis L) := by unfold pnum; rw [if_pos hm]
    have hd : decide ((0 : Int) ≤ mis L) = true := decide_eq_true hm
    generalize pnum L = P at *
    subst hP
    generalize mis L = M at *
    replace hf := Lib.hid hf
    clear hb0 hlen
    go_enter Tryz.func70, Tryz.ntmps70
    go_wp2_with fail
    refine (hF.out _).mono ?_; rintro e w1 ⟨rfl, hb⟩
    go_wp2_with fail
    go_ret3
    exact ⟨rfl, hb⟩
  have hm1 : mis L = -1 := by omega
  rw [hm1] at hF
  have hsh := (mis_shape hm1).1
  have hpos : 0 < s.size := by omega
  replace hb0 := hb0 hpos
  have hlen2 := Lib.hid hlen
  have hdg : ∀ k, dFrom L ≤ k → k < L.length → 48 ≤ lf L k ∧ lf L k ≤ 57 := fun k h1 h2 => mis_lf hm1 h1 h2
  have hne0 := mis_ne0 hm1
  by_cases h45 : lf L 0 = 45
  · rw [if_pos ⟨by omega, h45⟩] at hf
    rw [h45] at hb0
    rw [hf] at hsh hdg
    replace hne0 := Lib.hid (hne0 hf)
    have hfin : pnum L = if dval (L.drop 1) ≤ 9223372036854775808 then (-(dval (L.drop 1) : Int), 0, 0) else (0, 4, 0) := by unfold pnum; rw [if_neg hm, if_pos hf]
    have hfar : 9223372036854775808 < dval (L.drop 1) → Hid (pnum L = (0, 4, 0)) := fun h => Lib.hid (by rw [hfin, if_neg (by omega)])
    replace hfar := Lib.hid hfar
    replace hfin := Lib.hid hfin
    replace hdg := Lib.hid hdg
    replace h45 := Lib.hid h45
    replace hf := Lib.hid hf
    replace hlen := Lib.hid hlen
    replace hm1 := Lib.hid hm1
    have hs1 : 1 < s.size := by have := hlen.out; omega
    replace hsh := Lib.hid hsh
    clear hr hm
    go_enter Tryz.func70, Tryz.ntmps70
    go_wp2_with fail
    refine (hF.out _).mono ?_; rintro e w1 ⟨rfl, hb1⟩
    go_wp2_with fail
    go_loopw [7, 8] (fun n i wr => ∃ k m : Nat, i = .int .i64 k ∧ k ≤ s.size ∧ n = .int .u64 m ∧ m ≤ 9223372036854775808 ∧ (k < 1 → m = 0) ∧ (1 ≤ k → m = dpre L 1 k) ∧ Below w.heap.size w wr) (fun _ i _ => s.size + 1 - (intOf i).toNat)
    case atStart => exact ⟨0, 0, rfl, by omega, rfl, by omega, fun _ => rfl, fun h => by first | exact (dpre_0 L 0).symm | omega, by (repeat first | exact Below.refl _ _ | assumption | refine Below.drew ?_ | refine below_drewN ?_ _ | refine Below.more_ ?_ _ | refine Below.setCell ?_ (by first | exact Nat.le_refl _ | (simp; done) | (simp; omega)) _)⟩
    case round =>
      obtain ⟨k, m, rfl, hk, rfl, hm, hz, hp, hb⟩ := hrel
      by_cases hlt : k < s.size
      · have b0 := byte_lfD hlt
        rw [hL.out] at b0
        have hll : k < L.length := by rw [← hL.out, size_list_]; exact hlt
        by_cases k0 : k = 0
        · obtain rfl := k0
          obtain rfl := hz (by omega)
          clear b0
          go_wp2_with fail
          go_roundw
          case rel => exact ⟨1, 0, by go_num, by omega, rfl, by omega, fun h => by omega, fun _ => (dpre_0 L 1).symm, hb⟩
          case measure => simp [intOf] <;> omega
        have e0 : ((k : Int) == 0) = false := beq_eq_false_iff_ne.2 (by omega)
        obtain ⟨c48, c57⟩ := hdg.out k (by omega) hll
        have hmv := hp (by omega)
        have hs1 := dpre_s (L := L) (f := 1) (k := k) (by omega) hll
        have hov := dpre_over (L := L) (f := 1) (k := k) (by omega) hll
        rw [← hmv] at hs1 hov
        generalize lf L k = c at *
        have hw8 : IntKind.u8.wrap ((c : Int) - 48) = ((c - 48 : Nat) : Int) := by rw [IntKind.wrap_u8]; omega
        have hw9 : IntKind.u64.wrap ((c - 48 : Nat) : Int) = ((c - 48 : Nat) : Int) := by rw [IntKind.wrap_u64]; omega
        obtain ⟨d, hd⟩ : ∃ d, d = c - 48 := ⟨_, rfl⟩
        rw [← hd] at hw8 hw9 hs1 hov
        have d9 : d ≤ 9 := by omega
        replace hd := Lib.hid hd
        replace hmv := Lib.hid hmv
        by_cases q1 : 922337203685477580 < m
        · have d1 : decide ((922337203685477580 : Int) < (m : Int)) = true := decide_eq_true (by omega)
          have hx := hov (by omega)
          have hf := hfar.out hx
          clear hov hs1 hx hp hz
          go_wp2_with fail
          go_ret3
          exact ⟨by rw [hf.out]; rfl, hb⟩
        have d1 : decide ((922337203685477580 : Int) < (m : Int)) = false := decide_eq_false (by omega)
        by_cases q2 : m = 922337203685477580
        · have e2 : ((m : Int) == 922337203685477580) = true := beq_iff_eq.2 (by omega)
          by_cases q3 : 8 < d
          · have d3 : decide ((8 : Int) < (d : Int)) = true := decide_eq_true (by omega)
            have hx := hov (by omega)
            have hf := hfar.out hx
            clear hov hs1 hx hp hz
            go_wp2_with fail
            go_ret3
            exact ⟨by rw [hf.out]; rfl, hb⟩
          · have d3 : decide ((8 : Int) < (d : Int)) = false := decide_eq_false (by omega)
            have w1 : IntKind.u64.wrap (10 * (m : Int)) = ((m * 10 : Nat) : Int) := by rw [IntKind.wrap_u64]; omega
            have w2 : IntKind.u64.wrap (((m * 10 : Nat) : Int) + (d : Int)) = ((m * 10 + d : Nat) : Int) := by rw [IntKind.wrap_u64]; omega
            rw [← hs1] at w2
            have hle : dpre L 1 (k + 1) ≤ 9223372036854775808 := by omega
            replace hs1 := Lib.hid hs1
            clear hov hz hp
            go_wp2_with fail
            go_roundw
            case rel => exact ⟨k + 1, dpre L 1 (k + 1), by go_num, by omega, congrArg (Value.int .u64) (by rw [hs1.out]; push_cast; omega), hle, fun h => by omega, fun _ => rfl, hb⟩
            case measure => simp [intOf] <;> omega
        have e2 : ((m : Int) == 922337203685477580) = false := beq_eq_false_iff_ne.2 (by omega)
        have w1 : IntKind.u64.wrap (10 * (m : Int)) = ((m * 10 : Nat) : Int) := by rw [IntKind.wrap_u64]; omega
        have w2 : IntKind.u64.wrap (((m * 10 : Nat) : Int) + (d : Int)) = ((m * 10 + d : Nat) : Int) := by rw [IntKind.wrap_u64]; omega
        rw [← hs1] at w2
        have hle : dpre L 1 (k + 1) ≤ 9223372036854775808 := by omega
        replace hs1 := Lib.hid hs1
        clear hov hz hp
        go_wp2_with fail
        go_roundw
        case rel => exact ⟨k + 1, dpre L 1 (k + 1), by go_num, by omega, congrArg (Value.int .u64) (by rw [hs1.out]; push_cast; omega), hle, fun h => by omega, fun _ => rfl, hb⟩
        case measure => simp [intOf] <;> omega
      · obtain rfl : k = s.size := by omega
        have hv : m = dval (L.drop 1) := by rw [hp (by omega), ← hlen2.out, dpre_all]
        have hfn := hfin.out
        rw [← hv] at hfn
        have m1 := hne0.out
        rw [← hv] at m1
        rw [if_pos hm] at hfn
        have w1 : IntKind.u64.wrap ((m : Int) - 1) = (m : Int) - 1 := by rw [IntKind.wrap_u64]; omega
        have w2 : IntKind.i64.wrap ((m : Int) - 1) = (m : Int) - 1 := by rw [IntKind.wrap_i64]; omega
        have w3 : IntKind.i64.wrap (-((m : Int) - 1)) = 1 - (m : Int) := by rw [IntKind.wrap_i64]; omega
        have w4 : IntKind.i64.wrap (1 - (m : Int) - 1) = -(m : Int) := by rw [IntKind.wrap_i64]; omega
        replace hfn := Lib.hid hfn
        clear hp hz
        replace hv := Lib.hid hv
        go_wp2_with fail
        go_ret3
        exact ⟨by rw [hfn.out]; rfl, hb⟩
  · rw [if_neg (fun h => h45 h.2)] at hf
    have c256 := lf_lt L 0
    have e45 : ((lf L 0 : Int) == 45) = false := beq_eq_false_iff_ne.2 (by omega)
    rw [hf] at hsh hdg
    clear hne0
    have hfin : pnum L = if dval (L.drop 0) ≤ 9223372036854775807 then ((dval (L.drop 0) : Int), 0, 0) else (0, 4, 0) := by unfold pnum; rw [if_neg hm, if_neg (by rw [hf]; decide)]; rfl
    have hfar : 9223372036854775808 < dval (L.drop 0) → Hid (pnum L = (0, 4, 0)) := fun h => Lib.hid (by rw [hfin, if_neg (by omega)])
    replace hfar := Lib.hid hfar
    replace hfin := Lib.hid hfin
    replace hdg := Lib.hid hdg
    replace hf := Lib.hid hf
    replace hlen := Lib.hid hlen
    replace hm1 := Lib.hid hm1
    replace hsh := Lib.hid hsh
    clear hr hm
    go_enter Tryz.func70, Tryz.ntmps70
    go_wp2_with fail
    refine (hF.out _).mono ?_; rintro e w1 ⟨rfl, hb1⟩
    go_wp2_with fail
    go_loopw [7, 8] (fun n i wr => ∃ k m : Nat, i = .int .i64 k ∧ k ≤ s.size ∧ n = .int .u64 m ∧ m ≤ 9223372036854775808 ∧ (k < 0 → m = 0) ∧ (0 ≤ k → m = dpre L 0 k) ∧ Below w.heap.size w wr) (fun _ i _ => s.size + 1 - (intOf i).toNat)
    case atStart => exact ⟨0, 0, rfl, by omega, rfl, by omega, fun _ => rfl, fun h => by first | exact (dpre_0 L 0).symm | omega, by (repeat first | exact Below.refl _ _ | assumption | refine Below.drew ?_ | refine below_drewN ?_ _ | refine Below.more_ ?_ _ | refine Below.setCell ?_ (by first | exact Nat.le_refl _ | (simp; done) | (simp; omega)) _)⟩
    case round =>
      obtain ⟨k, m, rfl, hk, rfl, hm, hz, hp, hb⟩ := hrel
      by_cases hlt : k < s.size
      · have b0 := byte_lfD hlt
        rw [hL.out] at b0
        have hll : k < L.length := by rw [← hL.out, size_list_]; exact hlt
        clear hb0
        by_cases k0 : k = 0
        · have e0 : ((k : Int) == 0) = true := beq_iff_eq.2 (by omega)
          replace k0 := Lib.hid k0
          obtain ⟨c48, c57⟩ := hdg.out k (by omega) hll
          have hmv := hp (by omega)
          have hs1 := dpre_s (L := L) (f := 0) (k := k) (by omega) hll
          have hov := dpre_over (L := L) (f := 0) (k := k) (by omega) hll
          rw [← hmv] at hs1 hov
          generalize lf L k = c at *
          have hw8 : IntKind.u8.wrap ((c : Int) - 48) = ((c - 48 : Nat) : Int) := by rw [IntKind.wrap_u8]; omega
          have hw9 : IntKind.u64.wrap ((c - 48 : Nat) : Int) = ((c - 48 : Nat) : Int) := by rw [IntKind.wrap_u64]; omega
          obtain ⟨d, hd⟩ : ∃ d, d = c - 48 := ⟨_, rfl⟩
          rw [← hd] at hw8 hw9 hs1 hov
          have d9 : d ≤ 9 := by omega
          replace hd := Lib.hid hd
          replace hmv := Lib.hid hmv
          by_cases q1 : 922337203685477580 < m
          · have d1 : decide ((922337203685477580 : Int) < (m : Int)) = true := decide_eq_true (by omega)
            have hx := hov (by omega)
            have hf := hfar.out hx
            clear hov hs1 hx hp hz
            go_wp2_with fail
            go_ret3
            exact ⟨by rw [hf.out]; rfl, hb⟩
          have d1 : decide ((922337203685477580 : Int) < (m : Int)) = false := decide_eq_false (by omega)
          by_cases q2 : m = 922337203685477580
          · have e2 : ((m : Int) == 922337203685477580) = true := beq_iff_eq.2 (by omega)
            by_cases q3 : 8 < d
            · have d3 : decide ((8 : Int) < (d : Int)) = true := decide_eq_true (by omega)
              have hx := hov (by omega)
              have hf := hfar.out hx
              clear hov hs1 hx hp hz
              go_wp2_with fail
              go_ret3
              exact ⟨by rw [hf.out]; rfl, hb⟩
            · have d3 : decide ((8 : Int) < (d : Int)) = false := decide_eq_false (by omega)
              have w1 : IntKind.u64.wrap (10 * (m : Int)) = ((m * 10 : Nat) : Int) := by rw [IntKind.wrap_u64]; omega
              have w2 : IntKind.u64.wrap (((m * 10 : Nat) : Int) + (d : Int)) = ((m * 10 + d : Nat) : Int) := by rw [IntKind.wrap_u64]; omega
              rw [← hs1] at w2
              have hle : dpre L 0 (k + 1) ≤ 9223372036854775808 := by omega
              replace hs1 := Lib.hid hs1
              clear hov hz hp
              go_wp2_with fail
              go_roundw
              case rel => exact ⟨k + 1, dpre L 0 (k + 1), by go_num, by omega, congrArg (Value.int .u64) (by rw [hs1.out]; push_cast; omega), hle, fun h => by omega, fun _ => rfl, hb⟩
              case measure => simp [intOf] <;> omega
          have e2 : ((m : Int) == 922337203685477580) = false := beq_eq_false_iff_ne.2 (by omega)
          have w1 : IntKind.u64.wrap (10 * (m : Int)) = ((m * 10 : Nat) : Int) := by rw [IntKind.wrap_u64]; omega
          have w2 : IntKind.u64.wrap (((m * 10 : Nat) : Int) + (d : Int)) = ((m * 10 + d : Nat) : Int) := by rw [IntKind.wrap_u64]; omega
          rw [← hs1] at w2
          have hle : dpre L 0 (k + 1) ≤ 9223372036854775808 := by omega
          replace hs1 := Lib.hid hs1
          clear hov hz hp
          go_wp2_with fail
          go_roundw
          case rel => exact ⟨k + 1, dpre L 0 (k + 1), by go_num, by omega, congrArg (Value.int .u64) (by rw [hs1.out]; push_cast; omega), hle, fun h => by omega, fun _ => rfl, hb⟩
          case measure => simp [intOf] <;> omega
        have e0 : ((k : Int) == 0) = false := beq_eq_false_iff_ne.2 (by omega)
        obtain ⟨c48, c57⟩ := hdg.out k (by omega) hll
        have hmv := hp (by omega)
        have hs1 := dpre_s (L := L) (f := 0) (k := k) (by omega) hll
        have hov := dpre_over (L := L) (f := 0) (k := k) (by omega) hll
        rw [← hmv] at hs1 hov
        generalize lf L k = c at *
        have hw8 : IntKind.u8.wrap ((c : Int) - 48) = ((c - 48 : Nat) : Int) := by rw [IntKind.wrap_u8]; omega
        have hw9 : IntKind.u64.wrap ((c - 48 : Nat) : Int) = ((c - 48 : Nat) : Int) := by rw [IntKind.wrap_u64]; omega
        obtain ⟨d, hd⟩ : ∃ d, d = c - 48 := ⟨_, rfl⟩
        rw [← hd] at hw8 hw9 hs1 hov
        have d9 : d ≤ 9 := by omega
        replace hd := Lib.hid hd
        replace hmv := Lib.hid hmv
        by_cases q1 : 922337203685477580 < m
        · have d1 : decide ((922337203685477580 : Int) < (m : Int)) = true := decide_eq_true (by omega)
          have hx := hov (by omega)
          have hf := hfar.out hx
          clear hov hs1 hx hp hz
          go_wp2_with fail
          go_ret3
          exact ⟨by rw [hf.out]; rfl, hb⟩
        have d1 : decide ((922337203685477580 : Int) < (m : Int)) = false := decide_eq_false (by omega)
        by_cases q2 : m = 922337203685477580
        · have e2 : ((m : Int) == 922337203685477580) = true := beq_iff_eq.2 (by omega)
          by_cases q3 : 8 < d
          · have d3 : decide ((8 : Int) < (d : Int)) = true := decide_eq_true (by omega)
            have hx := hov (by omega)
            have hf := hfar.out hx
            clear hov hs1 hx hp hz
            go_wp2_with fail
            go_ret3
            exact ⟨by rw [hf.out]; rfl, hb⟩
          · have d3 : decide ((8 : Int) < (d : Int)) = false := decide_eq_false (by omega)
            have w1 : IntKind.u64.wrap (10 * (m : Int)) = ((m * 10 : Nat) : Int) := by rw [IntKind.wrap_u64]; omega
            have w2 : IntKind.u64.wrap (((m * 10 : Nat) : Int) + (d : Int)) = ((m * 10 + d : Nat) : Int) := by rw [IntKind.wrap_u64]; omega
            rw [← hs1] at w2
            have hle : dpre L 0 (k + 1) ≤ 9223372036854775808 := by omega
            replace hs1 := Lib.hid hs1
            clear hov hz hp
            go_wp2_with fail
            go_roundw
            case rel => exact ⟨k + 1, dpre L 0 (k + 1), by go_num, by omega, congrArg (Value.int .u64) (by rw [hs1.out]; push_cast; omega), hle, fun h => by omega, fun _ => rfl, hb⟩
            case measure => simp [intOf] <;> omega
        have e2 : ((m : Int) == 922337203685477580) = false := beq_eq_false_iff_ne.2 (by omega)
        have w1 : IntKind.u64.wrap (10 * (m : Int)) = ((m * 10 : Nat) : Int) := by rw [IntKind.wrap_u64]; omega
        have w2 : IntKind.u64.wrap (((m * 10 : Nat) : Int) + (d : Int)) = ((m * 10 + d : Nat) : Int) := by rw [IntKind.wrap_u64]; omega
        rw [← hs1] at w2
        have hle : dpre L 0 (k + 1) ≤ 9223372036854775808 := by omega
        replace hs1 := Lib.hid hs1
        clear hov hz hp
        go_wp2_with fail
        go_roundw
        case rel => exact ⟨k + 1, dpre L 0 (k + 1), by go_num, by omega, congrArg (Value.int .u64) (by rw [hs1.out]; push_cast; omega), hle, fun h => by omega, fun _ => rfl, hb⟩
        case measure => simp [intOf] <;> omega
      · obtain rfl : k = s.size := by omega
        have hv : m = dval (L.drop 0) := by rw [hp (by omega), ← hlen2.out, dpre_all]
        have hfn := hfin.out
        rw [← hv] at hfn
        clear hp hz
        replace hv := Lib.hid hv
        by_cases q : m ≤ 9223372036854775807
        · rw [if_pos q] at hfn
          have d1 : decide ((9223372036854775807 : Int) < (m : Int)) = false := decide_eq_false (by omega)
          have w2 : IntKind.i64.wrap (m : Int) = (m : Int) := by rw [IntKind.wrap_i64]; omega
          replace hfn := Lib.hid hfn
          go_wp2_with fail
          go_ret3
          exact ⟨by rw [hfn.out]; rfl, hb⟩
        · rw [if_neg q] at hfn
          have d1 : decide ((9223372036854775807 : Int) < (m : Int)) = true := decide_eq_true (by omega)
          replace hfn := Lib.hid hfn
          go_wp2_with fail
          go_ret3
          exact ⟨by rw [hfn.out]; rfl, hb⟩
set_option maxHeartbeats 1000000 in
theorem refWithin3_any (s : ByteArray) (lo hi : Int) (hs : s.size ≤ 1000000) (w : World) :
    Calls Tryz.prog 42 #[.string s, .int .i64 lo, .int .i64 hi] w fun e w' => e = .returned (.tuple #[.int .i64 (pwith lo hi s.data.toList).1, .int .i64 (pwith lo hi s.data.toList).2.1, .int .i64 (pwith lo hi s.data.toList).2.2]) ∧ Below w.heap.size w w' := by
  have hP := refParse3_any s hs w
  have hc := pnum_codes s.data.toList
  have hq : pwith lo hi s.data.toList = if (pnum s.data.toList).2.1 = 0 ∧ ((pnum s.data.toList).1 < lo ∨ hi < (pnum s.data.toList).1) then (0, 4, 0) else pnum s.data.toList := rfl
  generalize pwith lo hi s.data.toList = Q at *
  generalize pnum s.data.toList = P at *
  obtain ⟨n, c, a⟩ := P
  simp only at hc hq hP
  replace hP := Lib.hid hP
  by_cases c0 : c = 0
  · subst c0
    by_cases h1 : n < lo
    · rw [if_pos ⟨rfl, .inl h1⟩] at hq
      subst hq
      have d1 : decide (n < lo) = true := decide_eq_true h1
      clear hc
      go_enter Tryz.func42, Tryz.ntmps42
      go_wp2_with fail
      refine (hP.out).mono ?_; rintro e w1 ⟨rfl, hb⟩
      go_wp2_with fail
      go_ret3
      exact ⟨rfl, hb⟩
    have d1 : decide (n < lo) = false := decide_eq_false h1
    by_cases h2 : hi < n
    · rw [if_pos ⟨rfl, .inr h2⟩] at hq
      subst hq
      have d2 : decide (hi < n) = true := decide_eq_true h2
      clear hc
      go_enter Tryz.func42, Tryz.ntmps42
      go_wp2_with fail
      refine (hP.out).mono ?_; rintro e w1 ⟨rfl, hb⟩
      go_wp2_with fail
      go_ret3
      exact ⟨rfl, hb⟩
    have d2 : decide (hi < n) = false := decide_eq_false h2
    rw [if_neg (by omega)] at hq
    subst hq
    clear hc
    go_enter Tryz.func42, Tryz.ntmps42
    go_wp2_with fail
    refine (hP.out).mono ?_; rintro e w1 ⟨rfl, hb⟩
    go_wp2_with fail
    go_ret3
    exact ⟨rfl, hb⟩
  · rw [if_neg (fun h => c0 h.1)] at hq
    subst hq
    have e0 : (c == 0) = false := beq_eq_false_iff_ne.2 c0
    clear hc
    go_enter Tryz.func42, Tryz.ntmps42
    go_wp2_with fail
    refine (hP.out).mono ?_; rintro e w1 ⟨rfl, hb⟩
    go_wp2_with fail
    go_ret3
    exact ⟨rfl, hb⟩
end Go.Proofs.YtpkkjoiglemlgaaGreatDoor

/-
  The document's Parse of a name (layer 12). No condition.
-/
namespace Go.Proofs.YtpkkjoiglemlgaaGreatDoor
set_option linter.unusedVariables false
open Go.ChangeShapes Go.WideShapes Go.ChangeAt Go.RowKit Go.Extern.Stop Go.Stop Go.Extern

theorem extD (s : ByteArray) (a b : Nat) : (s.extract a b).data.toList = (s.data.toList.drop a).take (b - a) := by
  simp only [ByteArray.data_extract, Array.toList_extract, List.extract_eq_take_drop]
theorem extD_head (s : ByteArray) (k : Nat) : (s.extract 0 k).data.toList = s.data.toList.take k := by rw [extD]; simp
theorem extD_tail (s : ByteArray) (k : Nat) : (s.extract k s.size).data.toList = s.data.toList.drop k := by
  rw [extD, List.take_of_length_le (by rw [List.length_drop, size_list_]; omega)]
theorem extD_size (s : ByteArray) (a b : Nat) : (s.extract a b).size ≤ s.size := by rw [ByteArray.size_extract]; omega
theorem index_miss (c : UInt8) : ∀ l : List UInt8, c ∉ l → Lib.index l [c] = -1 := by
  intro l
  induction l with
  | nil => intro _; rfl
  | cons d l ih =>
    intro h
    rw [List.mem_cons, not_or] at h
    have hp : ([c].isPrefixOf (d :: l)) = false := by simp [List.isPrefixOf]; exact h.1
    rw [Lib.index, if_neg (by rw [hp]; decide), ih h.2]
    rfl
theorem index_hit {c : UInt8} {L : List UInt8} {k : Nat} (hk : k < L.length) (hc : lf L k = c.toNat) (hn : c ∉ L.take k) : Lib.index L [c] = k := by
  have e : L = L.take k ++ c :: L.drop (k + 1) := by
    have h2 : L.drop k = c :: L.drop (k + 1) := by
      rw [List.drop_eq_getElem_cons hk]
      congr 1
      apply UInt8.toNat_inj.1
      rw [← hc, lf_at hk]
    rw [← h2, List.take_append_drop]
  have h := index_first c (L.take k) (L.drop (k + 1)) hn
  rw [← e, List.length_take] at h
  rw [h]; congr 1; omega
theorem nohitD {c : UInt8} {L : List UInt8} {k : Nat} (hk : k < L.length) (hc : lf L k ≠ c.toNat) (hn : c ∉ L.take k) : c ∉ L.take (k + 1) := by
  rw [List.take_add_one, List.getElem?_eq_getElem hk]
  intro h
  rcases List.mem_append.1 h with h | h
  · exact hn h
  · simp only [Option.toList_some, List.mem_singleton] at h
    exact hc (by rw [lf_at hk, ← h])
theorem pId_miss {L : List UInt8} (h : Lib.index L [46] = -1) : pId L = ((0, 0), 1, (L.length : Int), -1) := by
  unfold pId
  rw [h]; rfl
theorem pId_hit {L : List UInt8} {k : Nat} (h : Lib.index L [46] = k) : pId L = if (pwith 0 255 (L.take k)).2.1 ≠ 0 then ((0, 0), (pwith 0 255 (L.take k)).2.1, (pwith 0 255 (L.take k)).2.2, 0) else if (pwith 1 4294967296 (L.drop (k + 1))).2.1 ≠ 0 then ((0, 0), (pwith 1 4294967296 (L.drop (k + 1))).2.1, (pwith 1 4294967296 (L.drop (k + 1))).2.2, 1) else (((pwith 0 255 (L.take k)).1, (pwith 1 4294967296 (L.drop (k + 1))).1), 0, 0, -1) := by
  have hne : ¬ ((k : Int)) = -1 := by omega
  unfold pId
  rw [h]
  simp only [Int.toNat_natCast]
  rw [if_neg hne]
def idTold (r : (Int × Int) × Int × Int × Int) : Value := .tuple #[.agg #[.int .i64 r.1.1, .int .i64 r.1.2], .int .i64 r.2.1, .int .i64 r.2.2.1, .int .i64 r.2.2.2]
theorem worldD {α : World → Prop} (Pw : World → Prop) {W : World} (h : Pw W) (k : ∀ W', Pw W' → α W') : α W := k W h
set_option maxHeartbeats 2000000 in
set_option maxRecDepth 100000 in
theorem refIdParse_any (s : ByteArray) (hs : s.size ≤ 1000000) (w : World) :
    Calls Tryz.prog 10 #[.string s] w fun e w' => e = .returned (idTold (pId s.data.toList)) ∧ Below w.heap.size w w' := by
  have hlen := size_list_ s
  have hW1 : Below w.heap.size w (w.alloc (.cells #[.int .i64 0, .int .i64 0] 23)) := (Below.refl _ _).alloc (Nat.le_refl _) _
  have hA := fun (k : Nat) W => refWithin3_any (s.extract 0 k) 0 255 (by have := extD_size s 0 k; omega) W
  have hC := fun (k : Nat) W => refWithin3_any (s.extract k s.size) 1 4294967296 (by have := extD_size s k s.size; omega) W
  have hE := extD_head s
  have hT := extD_tail s
  generalize hL : s.data.toList = L at *
  replace hL := Lib.hid hL
  replace hlen := Lib.hid hlen
  replace hA := Lib.hid hA
  replace hC := Lib.hid hC
  replace hE := Lib.hid hE
  replace hT := Lib.hid hT
  generalize hPQ : idTold (pId L) = R at *
  replace hPQ := Lib.hid hPQ
  have B1 := Blk.new w 23 #[.int .i64 0, .int .i64 0]
  replace hW1 := Lib.hid hW1
  replace B1 := Lib.hid B1
  go_enter Tryz.func10, Tryz.ntmps10
  go_wp2_with fail
  go_loopw [6] (fun i wr => ∃ k : Nat, i = .int .i64 k ∧ k ≤ s.size ∧ Hid ((46 : UInt8) ∉ L.take k) ∧ Blk wr w.heap.size 23 #[.int .i64 0, .int .i64 0] ∧ Below w.heap.size w wr) (fun i _ => s.size + 1 - (intOf i).toNat)
  case atStart => exact ⟨0, rfl, Nat.zero_le _, by simp [Hid], B1.out, hW1.out⟩
  case round =>
    obtain ⟨k, rfl, hk, hn, B2, hb⟩ := hrel
    replace B2 := Lib.hid B2
    replace hb := Lib.hid hb
    by_cases hlt : k < s.size
    · have b0 := byte_lfD hlt
      rw [hL.out] at b0
      have hll : k < L.length := by rw [hlen.out]; exact hlt
      have c256 := lf_lt L k
      by_cases h46 : lf L k = 46
      · have hi := pId_hit (index_hit hll h46 hn.out)
        rw [h46] at b0
        have e1 : ((k : Int) == (s.size : Int)) = false := beq_eq_false_iff_ne.2 (by omega)
        have c1 : (0 : Int) ≤ (k : Int) := by omega
        have c2 : (k : Int) ≤ (s.size : Int) := by omega
        have c3 : (0 : Int) ≤ (k : Int) + 1 := by omega
        have c4 : (k : Int) + 1 ≤ (s.size : Int) := by omega
        have hA1 := hA.out k
        have hC1 := hC.out (k + 1)
        rw [hE.out k] at hA1
        rw [hT.out (k + 1)] at hC1
        generalize hp1 : pwith 0 255 (L.take k) = p1 at *
        generalize hp2 : pwith 1 4294967296 (L.drop (k + 1)) = p2 at *
        obtain ⟨n1, e1, a1⟩ := p1
        obtain ⟨n2, e2, a2⟩ := p2
        simp only at hA1 hC1 hi
        replace hp1 := Lib.hid hp1
        replace hp2 := Lib.hid hp2
        replace hA1 := Lib.hid hA1
        replace hC1 := Lib.hid hC1
        replace h46 := Lib.hid h46
        go_wp2_with fail
        refine (hA1.out _).mono ?_; rintro e w2 ⟨rfl, hb2⟩
        have B3 := B2.out.below hb2 B2.out.lt
        have hb3 := Below.next_ hb.out hb2
        by_cases q1 : e1 = 0
        · subst q1
          rw [if_neg (by decide)] at hi
          replace B3 := Lib.hid B3
          replace hb3 := Lib.hid hb3
          clear hb2
          go_wp2_with fail
          refine (hC1.out _).mono ?_; rintro e w3 ⟨rfl, hb4⟩
          have B4 := B3.out.below hb4 B3.out.lt
          have hb5 := Below.next_ hb3.out hb4
          have x0 := B4.cell 0
          have x1 := B4.cell 1
          have f0 := B4.frozen 0
          have f1 := B4.frozen 1
          replace B4 := Lib.hid B4
          replace hb5 := Lib.hid hb5
          clear hb4
          by_cases q2 : e2 = 0
          · subst q2
            rw [if_neg (by decide)] at hi
            have hR : Hid (R = idTold ((n1, n2), 0, 0, -1)) := Lib.hid (by rw [← hPQ.out, hi])
            clear hi
            go_wp2_with fail
            refine worldD (α := fun W' => bodyPost _ _ _ _ _ W') (fun W => Blk W w.heap.size 23 #[.int .i64 n1, .int .i64 n2] ∧ Below w.heap.size w W) ?_ fun W hW => ?_
            · exact ⟨Blk.eq_cs (Blk.set_ (Blk.set_ B4.out 0 _) 1 _) rfl, (hb5.out.setCell (Nat.le_refl _) _).setCell (Nat.le_refl _) _⟩
            obtain ⟨k1, k3⟩ := hW
            have z0 := k1.cell 0
            have z1 := k1.cell 1
            exact bodyPost_ret (v := R) (by rw [hR.out]; simp [idTold, results, Tryz.results10, go_sem, z0, z1]) rfl ⟨rfl, k3⟩
          · rw [if_pos q2] at hi
            have hR : Hid (R = idTold ((0, 0), e2, a2, 1)) := Lib.hid (by rw [← hPQ.out, hi])
            have q2b : (e2 == 0) = false := beq_eq_false_iff_ne.2 q2
            clear hi
            go_wp2_with fail
            refine worldD (α := fun W' => bodyPost _ _ _ _ _ W') (fun W => Blk W w.heap.size 23 #[.int .i64 0, .int .i64 0] ∧ Below w.heap.size w W) ?_ fun W hW => ?_
            · exact ⟨Blk.eq_cs (Blk.set_ (Blk.set_ B4.out 0 _) 1 _) rfl, (hb5.out.setCell (Nat.le_refl _) _).setCell (Nat.le_refl _) _⟩
            obtain ⟨k1, k3⟩ := hW
            have z0 := k1.cell 0
            have z1 := k1.cell 1
            exact bodyPost_ret (v := R) (by rw [hR.out]; simp [idTold, results, Tryz.results10, go_sem, z0, z1]) rfl ⟨rfl, k3⟩
        · rw [if_pos q1] at hi
          have hR : Hid (R = idTold ((0, 0), e1, a1, 0)) := Lib.hid (by rw [← hPQ.out, hi])
          have q1b : (e1 == 0) = false := beq_eq_false_iff_ne.2 q1
          have x0 := B3.cell 0
          have x1 := B3.cell 1
          have f0 := B3.frozen 0
          have f1 := B3.frozen 1
          replace B3 := Lib.hid B3
          replace hb3 := Lib.hid hb3
          clear hi hb2
          go_wp2_with fail
          refine worldD (α := fun W' => bodyPost _ _ _ _ _ W') (fun W => Blk W w.heap.size 23 #[.int .i64 0, .int .i64 0] ∧ Below w.heap.size w W) ?_ fun W hW => ?_
          · exact ⟨Blk.eq_cs (Blk.set_ (Blk.set_ B3.out 0 _) 1 _) rfl, (hb3.out.setCell (Nat.le_refl _) _).setCell (Nat.le_refl _) _⟩
          obtain ⟨k1, k3⟩ := hW
          have z0 := k1.cell 0
          have z1 := k1.cell 1
          exact bodyPost_ret (v := R) (by rw [hR.out]; simp [idTold, results, Tryz.results10, go_sem, z0, z1]) rfl ⟨rfl, k3⟩
      · have hne : ((lf L k : Int) == 46) = false := beq_eq_false_iff_ne.2 (by omega)
        have hn2 := Lib.hid (nohitD hll (by show lf L k ≠ 46; exact h46) hn.out)
        go_wp2_with fail
        go_roundw
        case rel => exact ⟨k + 1, by go_num, by omega, hn2, B2.out, hb.out⟩
        case measure => simp [intOf] <;> omega
    · obtain rfl : k = s.size := by omega
      have hi : pId L = ((0, 0), 1, (L.length : Int), -1) := pId_miss (index_miss 46 L (by have := hn.out; rwa [List.take_of_length_le (by have := hlen.out; omega)] at this))
      rw [hlen.out] at hi
      have hR : Hid (R = idTold ((0, 0), 1, (s.size : Int), -1)) := Lib.hid (by rw [← hPQ.out, hi])
      have x0 := B2.out.cell 0
      have x1 := B2.out.cell 1
      have f0 := B2.out.frozen 0
      have f1 := B2.out.frozen 1
      clear hi
      go_wp2_with fail
      refine worldD (α := fun W' => bodyPost _ _ _ _ _ W') (fun W => Blk W w.heap.size 23 #[.int .i64 0, .int .i64 0] ∧ Below w.heap.size w W) ?_ fun W hW => ?_
      · exact ⟨Blk.eq_cs (Blk.set_ (Blk.set_ B2.out 0 _) 1 _) rfl, (hb.out.setCell (Nat.le_refl _) _).setCell (Nat.le_refl _) _⟩
      obtain ⟨k1, k3⟩ := hW
      have z0 := k1.cell 0
      have z1 := k1.cell 1
      exact bodyPost_ret (v := R) (by rw [hR.out]; simp [idTold, results, Tryz.results10, go_sem, z0, z1]) rfl ⟨rfl, k3⟩
end Go.Proofs.YtpkkjoiglemlgaaGreatDoor
