/-
  Quoting, plainly: a byte's part of a word, a text's word, a word's text; each comes back of the other. No program in sight. No condition.
-/
import Derived.Test.YtpkkjoiglemlgaaGreatDoorSeptetQ
namespace Go.Proofs.YtpkkjoiglemlgaaGreatDoor
set_option linter.unusedVariables false

/-- Does a byte stand for itself? -/
def qplain (c : Nat) : Bool := decide ((97 ≤ c ∧ c ≤ 122) ∨ (65 ≤ c ∧ c ≤ 90) ∨ (48 ≤ c ∧ c ≤ 58) ∨ c = 46 ∨ c = 47 ∨ c = 95)
/-- The sign of a digit below 16. -/
def qdig (k : Nat) : UInt8 := UInt8.ofNat (if k < 10 then 48 + k else 87 + k)
/-- A byte's part of a word. -/
def qone (c : UInt8) : List UInt8 := if qplain c.toNat then [c] else [37, qdig (c.toNat / 16), qdig (c.toNat % 16)]
/-- A text's word. -/
def qprint (l : List UInt8) : List UInt8 := if l = [] then [45] else l.flatMap qone
/-- A sign's digit. -/
def qval (c : Nat) : Option Nat := if 48 ≤ c ∧ c ≤ 57 then some (c - 48) else if 97 ≤ c ∧ c ≤ 102 then some (c - 87) else none
/-- A word's text from a place on: the text, a code, and its place. -/
def qpF (l : List UInt8) : Nat → Nat → List UInt8 → List UInt8 × Nat × Nat
  | 0, _, out => (out, 0, 0)
  | n + 1, i, out =>
    if l.length ≤ i then (out, 0, 0)
    else if qplain (lf l i) then qpF l n (i + 1) (out ++ [UInt8.ofNat (lf l i)])
    else if lf l i ≠ 37 then ([], 1, i)
    else if l.length ≤ i + 1 then ([], 2, l.length)
    else match qval (lf l (i + 1)) with
      | none => ([], 1, i + 1)
      | some x => if l.length ≤ i + 2 then ([], 2, l.length)
        else match qval (lf l (i + 2)) with
          | none => ([], 1, i + 2)
          | some y => if qplain (16 * x + y) then ([], 1, i) else qpF l n (i + 3) (out ++ [UInt8.ofNat (16 * x + y)])
def qparse (l : List UInt8) : List UInt8 × Nat × Nat := if l = [] then ([], 2, 0) else if l = [45] then ([], 0, 0) else qpF l l.length 0 []

theorem lf_at {l : List UInt8} {i : Nat} (h : i < l.length) : lf l i = l[i].toNat := by simp [lf, List.getElem?_eq_getElem h]
theorem lf_byte {l : List UInt8} {i : Nat} (h : i < l.length) : UInt8.ofNat (lf l i) = l[i] := by rw [lf_at h]; simp
theorem lf_lt (l : List UInt8) (i : Nat) : lf l i < 256 := by unfold lf; exact UInt8.toNat_lt _
theorem size_list_ (s : ByteArray) : s.data.toList.length = s.size := by simp
theorem qval_qdig {k : Nat} (h : k < 16) : qval (qdig k).toNat = some k := by
  have : ∀ k : Fin 16, qval (qdig k.val).toNat = some k.val := by decide +kernel
  exact this ⟨k, h⟩
theorem qdig_qval {c x : Nat} (hc : c < 256) (h : qval c = some x) : x < 16 ∧ qdig x = UInt8.ofNat c := by
  have : ∀ c : Fin 256, ∀ x : Fin 256, qval c.val = some x.val → x.val < 16 ∧ qdig x.val = UInt8.ofNat c.val := by decide +kernel
  have hx : x < 256 := by
    unfold qval at h
    split at h
    · injection h; omega
    · split at h
      · injection h; omega
      · cases h
  exact this ⟨c, hc⟩ ⟨x, hx⟩ h
theorem qone_seen (c : UInt8) : ∀ b ∈ qone c, 32 < b.toNat ∧ b.toNat < 127 := by
  have : ∀ c : Fin 256, (qone (UInt8.ofNat c.val)).all (fun b => decide (32 < b.toNat ∧ b.toNat < 127)) = true := by decide +kernel
  have h := this ⟨c.toNat, c.toNat_lt⟩
  rw [show UInt8.ofNat c.toNat = c by simp] at h
  intro b hb
  simpa using List.all_eq_true.1 h b hb
theorem qone_ne (c : UInt8) : qone c ≠ [] := by unfold qone; split <;> simp
theorem qprint_ne (l : List UInt8) : qprint l ≠ [] := by
  unfold qprint
  split
  · simp
  · rename_i h
    obtain ⟨c, r, rfl⟩ := List.exists_cons_of_ne_nil h
    simp [qone_ne]
theorem qprint_seen (l : List UInt8) : ∀ b ∈ qprint l, 32 < b.toNat ∧ b.toNat < 127 := by
  intro b hb
  unfold qprint at hb
  split at hb
  · simp only [List.mem_singleton] at hb; subst hb; decide
  · obtain ⟨c, _, hc⟩ := List.mem_flatMap.1 hb
    exact qone_seen c b hc
theorem qone_len (c : UInt8) : (qone c).length ≤ 3 := by unfold qone; split <;> simp
theorem flat_len (l : List UInt8) : (l.flatMap qone).length ≤ 3 * l.length := by
  induction l with
  | nil => simp
  | cons c r ih => have := qone_len c; rw [List.flatMap_cons, List.length_append, List.length_cons]; omega
theorem qprint_len (l : List UInt8) : (qprint l).length ≤ 3 * l.length + 1 := by
  unfold qprint
  split
  · simp
  · have := flat_len l; omega
theorem qp_back : ∀ (rest pre out : List UInt8) (n : Nat), rest.length ≤ n → qpF (pre ++ rest.flatMap qone) n pre.length out = (out ++ rest, 0, 0)
  | [], pre, out, 0, _ => by simp [qpF]
  | [], pre, out, n + 1, _ => by simp [qpF]
  | c :: r, pre, out, 0, h => by simp at h
  | c :: r, pre, out, n + 1, h => by
    have hr : r.length ≤ n := by simpa using h
    by_cases hp : qplain c.toNat = true
    · have e : pre ++ (c :: r).flatMap qone = (pre ++ [c]) ++ r.flatMap qone := by simp [qone, hp]
      rw [e]
      have hl : lf ((pre ++ [c]) ++ r.flatMap qone) pre.length = c.toNat := by simp [lf]
      have ih := qp_back r (pre ++ [c]) (out ++ [c]) n hr
      rw [show (pre ++ [c]).length = pre.length + 1 by simp] at ih
      rw [qpF, if_neg (by simp), hl, if_pos hp, show UInt8.ofNat c.toNat = c by simp, ih]
      simp
    · have hlt := c.toNat_lt
      have e : pre ++ (c :: r).flatMap qone = (pre ++ [37, qdig (c.toNat / 16), qdig (c.toNat % 16)]) ++ r.flatMap qone := by simp [qone, hp]
      rw [e]
      have hl : lf ((pre ++ [37, qdig (c.toNat / 16), qdig (c.toNat % 16)]) ++ r.flatMap qone) pre.length = 37 := by simp [lf]
      have hl1 : lf ((pre ++ [37, qdig (c.toNat / 16), qdig (c.toNat % 16)]) ++ r.flatMap qone) (pre.length + 1) = (qdig (c.toNat / 16)).toNat := by simp [lf]
      have hl2 : lf ((pre ++ [37, qdig (c.toNat / 16), qdig (c.toNat % 16)]) ++ r.flatMap qone) (pre.length + 2) = (qdig (c.toNat % 16)).toNat := by simp [lf]
      have hlen : ((pre ++ [37, qdig (c.toNat / 16), qdig (c.toNat % 16)]) ++ r.flatMap qone).length = pre.length + 3 + (r.flatMap qone).length := by simp; omega
      have ih := qp_back r (pre ++ [37, qdig (c.toNat / 16), qdig (c.toNat % 16)]) (out ++ [c]) n hr
      rw [show (pre ++ [37, qdig (c.toNat / 16), qdig (c.toNat % 16)]).length = pre.length + 3 by simp] at ih
      rw [qpF, if_neg (by omega), hl, if_neg (by decide), if_neg (by decide), if_neg (by omega), hl1, qval_qdig (by omega)]
      simp only
      rw [if_neg (by omega), hl2, qval_qdig (by omega)]
      simp only
      rw [show 16 * (c.toNat / 16) + c.toNat % 16 = c.toNat by omega, if_neg hp, show UInt8.ofNat c.toNat = c by simp, ih]
      simp
theorem qp_inv (l : List UInt8) : ∀ (n i : Nat) (out u : List UInt8), l.length ≤ i + n → qpF l n i out = (u, 0, 0) → ∃ rest, u = out ++ rest ∧ rest.flatMap qone = l.drop i
  | 0, i, out, u, hl, h => by
    simp only [qpF, Prod.mk.injEq, and_true] at h
    exact ⟨[], by simp [h], by rw [List.drop_eq_nil_of_le (by omega)]; rfl⟩
  | n + 1, i, out, u, hl, h => by
    rw [qpF] at h
    by_cases hi : l.length ≤ i
    · rw [if_pos hi] at h
      simp only [Prod.mk.injEq, and_true] at h
      exact ⟨[], by simp [h], by rw [List.drop_eq_nil_of_le (by omega)]; rfl⟩
    · rw [if_neg hi] at h
      have hi' : i < l.length := by omega
      by_cases hp : qplain (lf l i) = true
      · rw [if_pos hp] at h
        obtain ⟨rest, e1, e2⟩ := qp_inv l n (i + 1) _ u (by omega) h
        refine ⟨l[i] :: rest, by rw [e1, lf_byte hi']; simp, ?_⟩
        rw [List.drop_eq_getElem_cons hi', List.flatMap_cons, e2]
        rw [lf_at hi'] at hp
        simp [qone, hp]
      · rw [if_neg hp] at h
        by_cases h37 : lf l i ≠ 37
        · rw [if_pos h37] at h; simp at h
        · rw [if_neg h37] at h
          have h37' : lf l i = 37 := by omega
          by_cases h1 : l.length ≤ i + 1
          · rw [if_pos h1] at h; simp at h
          · rw [if_neg h1] at h
            cases hx : qval (lf l (i + 1)) with
            | none => rw [hx] at h; simp at h
            | some x =>
              rw [hx] at h
              simp only at h
              by_cases h2 : l.length ≤ i + 2
              · rw [if_pos h2] at h; simp at h
              · rw [if_neg h2] at h
                cases hy : qval (lf l (i + 2)) with
                | none => rw [hy] at h; simp at h
                | some y =>
                  rw [hy] at h
                  simp only at h
                  by_cases hq : qplain (16 * x + y) = true
                  · rw [if_pos hq] at h; simp at h
                  · rw [if_neg hq] at h
                    obtain ⟨rest, e1, e2⟩ := qp_inv l n (i + 3) _ u (by omega) h
                    obtain ⟨x1, x2⟩ := qdig_qval (lf_lt _ _) hx
                    obtain ⟨y1, y2⟩ := qdig_qval (lf_lt _ _) hy
                    rw [lf_byte (by omega)] at x2 y2
                    refine ⟨UInt8.ofNat (16 * x + y) :: rest, by rw [e1]; simp, ?_⟩
                    have hn : (UInt8.ofNat (16 * x + y)).toNat = 16 * x + y := by simp; omega
                    have h37b : l[i] = 37 := by rw [← lf_byte hi', h37']; rfl
                    rw [List.drop_eq_getElem_cons hi', List.drop_eq_getElem_cons (i := i + 1) (by omega), List.drop_eq_getElem_cons (i := i + 1 + 1) (by omega), List.flatMap_cons, e2, h37b, ← x2]
                    have e3 : l[i + 1 + 1] = qdig y := y2.symm
                    rw [e3]
                    simp only [qone, hn, hq, Bool.false_eq_true, if_false, List.cons_append, List.nil_append]
                    rw [show (16 * x + y) / 16 = x by omega, show (16 * x + y) % 16 = y by omega]
/-! ### one step -/
section
variable {l acc : List UInt8} {n k : Nat}
theorem qpF_end (h : l.length ≤ k) : qpF l n k acc = (acc, 0, 0) := by
  rcases n with _ | n
  · rfl
  · rw [qpF, if_pos h]
theorem qpF_plain (h : k < l.length) (hp : qplain (lf l k) = true) : qpF l (n + 1) k acc = qpF l n (k + 1) (acc ++ [UInt8.ofNat (lf l k)]) := by
  rw [qpF, if_neg (by omega), if_pos hp]
theorem qpF_form (h : k < l.length) (hp : qplain (lf l k) = false) (hc : lf l k ≠ 37) : qpF l (n + 1) k acc = ([], 1, k) := by
  rw [qpF, if_neg (by omega), if_neg (by rw [hp]; decide), if_pos hc]
theorem qpF_short1 (h : k < l.length) (hc : lf l k = 37) (h1 : l.length ≤ k + 1) : qpF l (n + 1) k acc = ([], 2, l.length) := by
  rw [qpF, if_neg (by omega), if_neg (by rw [hc]; decide), if_neg (by omega), if_pos h1]
theorem qpF_bad1 (hc : lf l k = 37) (h1 : k + 1 < l.length) (hx : qval (lf l (k + 1)) = none) : qpF l (n + 1) k acc = ([], 1, k + 1) := by
  rw [qpF, if_neg (by omega), if_neg (by rw [hc]; decide), if_neg (by omega), if_neg (by omega), hx]
theorem qpF_short2 {x : Nat} (hc : lf l k = 37) (h1 : k + 1 < l.length) (hx : qval (lf l (k + 1)) = some x) (h2 : l.length ≤ k + 2) : qpF l (n + 1) k acc = ([], 2, l.length) := by
  rw [qpF, if_neg (by omega), if_neg (by rw [hc]; decide), if_neg (by omega), if_neg (by omega), hx]
  simp only
  rw [if_pos h2]
theorem qpF_bad2 {x : Nat} (hc : lf l k = 37) (hx : qval (lf l (k + 1)) = some x) (h2 : k + 2 < l.length) (hy : qval (lf l (k + 2)) = none) : qpF l (n + 1) k acc = ([], 1, k + 2) := by
  rw [qpF, if_neg (by omega), if_neg (by rw [hc]; decide), if_neg (by omega), if_neg (by omega), hx]
  simp only
  rw [if_neg (by omega), hy]
theorem qpF_form2 {x y : Nat} (hc : lf l k = 37) (hx : qval (lf l (k + 1)) = some x) (h2 : k + 2 < l.length) (hy : qval (lf l (k + 2)) = some y) (hp : qplain (16 * x + y) = true) : qpF l (n + 1) k acc = ([], 1, k) := by
  rw [qpF, if_neg (by omega), if_neg (by rw [hc]; decide), if_neg (by omega), if_neg (by omega), hx]
  simp only
  rw [if_neg (by omega), hy]
  simp only
  rw [if_pos hp]
theorem qpF_step {x y : Nat} (hc : lf l k = 37) (hx : qval (lf l (k + 1)) = some x) (h2 : k + 2 < l.length) (hy : qval (lf l (k + 2)) = some y) (hp : qplain (16 * x + y) = false) : qpF l (n + 1) k acc = qpF l n (k + 3) (acc ++ [UInt8.ofNat (16 * x + y)]) := by
  rw [qpF, if_neg (by omega), if_neg (by rw [hc]; decide), if_neg (by omega), if_neg (by omega), hx]
  simp only
  rw [if_neg (by omega), hy]
  simp only
  rw [if_neg (by rw [hp]; decide)]
end
/-- A text comes back of its word. -/
theorem qparse_qprint (l : List UInt8) : qparse (qprint l) = (l, 0, 0) := by
  unfold qparse
  rw [if_neg (qprint_ne l)]
  unfold qprint
  split
  · rename_i h; subst h; rfl
  · rename_i h
    have hne : l.flatMap qone ≠ [45] := by
      obtain ⟨c, r, rfl⟩ := List.exists_cons_of_ne_nil h
      intro e
      have : ∀ c : Fin 256, (qone (UInt8.ofNat c.val)).head? ≠ some 45 := by decide +kernel
      have h1 := this ⟨c.toNat, c.toNat_lt⟩
      rw [show UInt8.ofNat c.toNat = c by simp] at h1
      apply h1
      obtain ⟨b, t, hb⟩ := List.exists_cons_of_ne_nil (qone_ne c)
      rw [List.flatMap_cons, hb] at e
      rw [hb]
      simp at e
      simp [e.1]
    rw [if_neg hne]
    have hle : l.length ≤ (l.flatMap qone).length := by
      clear h hne
      induction l with
      | nil => simp
      | cons c r ih =>
        have := List.length_pos_iff.2 (qone_ne c)
        simp only [List.flatMap_cons, List.length_append, List.length_cons]; omega
    have := qp_back l [] [] (l.flatMap qone).length hle
    simpa using this
/-- A word that is one is the one that is written. -/
theorem qprint_qparse {l u : List UInt8} (h : qparse l = (u, 0, 0)) : qprint u = l := by
  unfold qparse at h
  split at h
  · simp at h
  · rename_i h0
    split at h
    · rename_i h1
      simp only [Prod.mk.injEq, and_true] at h
      subst h h1
      rfl
    · obtain ⟨rest, e1, e2⟩ := qp_inv l l.length 0 [] u (by omega) h
      simp only [List.nil_append] at e1
      subst e1
      simp only [List.drop_zero] at e2
      unfold qprint
      rw [if_neg, e2]
      rintro rfl
      exact h0 e2.symm
theorem qpF_code (l : List UInt8) : ∀ (n i : Nat) (out : List UInt8), ((qpF l n i out).2.1 = 0 ∧ (qpF l n i out).2.2 = 0) ∨ (((qpF l n i out).2.1 = 1 ∨ (qpF l n i out).2.1 = 2) ∧ (qpF l n i out).1 = [] ∧ (qpF l n i out).2.2 ≤ l.length)
  | 0, i, out => .inl ⟨rfl, rfl⟩
  | n + 1, i, out => by
    rw [qpF]
    by_cases hi : l.length ≤ i
    · rw [if_pos hi]; exact .inl ⟨rfl, rfl⟩
    · rw [if_neg hi]
      by_cases hp : qplain (lf l i) = true
      · rw [if_pos hp]; exact qpF_code l n _ _
      · rw [if_neg hp]
        by_cases h37 : lf l i ≠ 37
        · rw [if_pos h37]; exact .inr ⟨.inl rfl, rfl, by simp; omega⟩
        · rw [if_neg h37]
          by_cases h1 : l.length ≤ i + 1
          · rw [if_pos h1]; exact .inr ⟨.inr rfl, rfl, by simp⟩
          · rw [if_neg h1]
            cases hx : qval (lf l (i + 1)) with
            | none => exact .inr ⟨.inl rfl, rfl, by simp; omega⟩
            | some x =>
              simp only
              by_cases h2 : l.length ≤ i + 2
              · rw [if_pos h2]; exact .inr ⟨.inr rfl, rfl, by simp⟩
              · rw [if_neg h2]
                cases hy : qval (lf l (i + 2)) with
                | none => exact .inr ⟨.inl rfl, rfl, by simp; omega⟩
                | some y =>
                  simp only
                  by_cases hq : qplain (16 * x + y) = true
                  · rw [if_pos hq]; exact .inr ⟨.inl rfl, rfl, by simp; omega⟩
                  · rw [if_neg hq]; exact qpF_code l n _ _
theorem qparse_code (l : List UInt8) : ((qparse l).2.1 = 0 ∧ (qparse l).2.2 = 0) ∨ (((qparse l).2.1 = 1 ∨ (qparse l).2.1 = 2) ∧ (qparse l).1 = [] ∧ (qparse l).2.2 ≤ l.length) := by
  unfold qparse
  split
  · exact .inr ⟨.inr rfl, rfl, by simp⟩
  · split
    · exact .inl ⟨rfl, rfl⟩
    · exact qpF_code _ _ _ _
end Go.Proofs.YtpkkjoiglemlgaaGreatDoor
