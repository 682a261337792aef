/-
  Operations and their bytes, plainly: the bytes; how they are read, part by part; each comes back of the other. No program in sight. No condition.
-/
import Derived.Test.YtpkkjoiglemlgaaGreatDoorSeg
namespace Go.Proofs.YtpkkjoiglemlgaaGreatDoor
set_option linter.unusedVariables false

structure OGuard where
  kind : Int
  key : ByteArray
  value : ByteArray
structure OStep where
  kind : Int
  key : ByteArray
  value : ByteArray
  old : ByteArray
  n : Int
structure OOp where
  guards : List OGuard
  steps : List OStep
def gRight (g : OGuard) : Bool := decide (1 ≤ g.kind ∧ g.kind ≤ 3 ∧ g.key.size ≤ 16 ∧ g.value.size ≤ 32 ∧ (g.kind = 3 ∨ g.value.size = 0))
def sRight (x : OStep) : Bool := decide (1 ≤ x.kind ∧ x.kind ≤ 4 ∧ x.key.size ≤ 16 ∧ x.value.size ≤ 32 ∧ x.old.size ≤ 32 ∧ (x.old.size = 0 ∨ x.kind = 4) ∧ (x.value.size = 0 ∨ x.kind = 1 ∨ x.kind = 4) ∧ (x.n = 0 ∨ x.kind = 3))
def oRight (o : OOp) : Bool := decide (o.guards.length ≤ 4) && decide (1 ≤ o.steps.length) && decide (o.steps.length ≤ 4) && o.guards.all gRight && o.steps.all sRight
/-- A step's number is an int64. -/
def sFit (x : OStep) : Prop := -9223372036854775808 ≤ x.n ∧ x.n ≤ 9223372036854775807
def gBytes (g : OGuard) : List UInt8 := sput g.kind.toNat ++ (stxt g.key ++ if g.kind = 3 then stxt g.value else [])
def sBytes (x : OStep) : List UInt8 := sput x.kind.toNat ++ (stxt x.key ++ if x.kind = 1 then stxt x.value else if x.kind = 3 then sput (zz x.n) else if x.kind = 4 then stxt x.old ++ stxt x.value else [])
def oBytes (o : OOp) : List UInt8 := sput o.guards.length ++ (o.guards.flatMap gBytes ++ (sput o.steps.length ++ o.steps.flatMap sBytes))

/-- A guard at a place: it, and the place behind; or a code and its place. -/
def pGuard (s : ByteArray) (p : Int) : Except (Int × Int) (OGuard × Int) :=
  if (tk s p).2.2 ≠ 0 then .error ((tk s p).2.2, p)
  else if (tk s p).1 < 1 ∨ 3 < (tk s p).1 then .error (5, p)
  else if (tkt s (tk s p).2.1 16).2.2 ≠ 0 then .error ((tkt s (tk s p).2.1 16).2.2, (tk s p).2.1)
  else if (tk s p).1 < 3 then .ok (⟨(tk s p).1, (tkt s (tk s p).2.1 16).1, ByteArray.empty⟩, (tkt s (tk s p).2.1 16).2.1)
  else if (tkt s (tkt s (tk s p).2.1 16).2.1 32).2.2 ≠ 0 then .error ((tkt s (tkt s (tk s p).2.1 16).2.1 32).2.2, (tkt s (tk s p).2.1 16).2.1)
  else .ok (⟨3, (tkt s (tk s p).2.1 16).1, (tkt s (tkt s (tk s p).2.1 16).2.1 32).1⟩, (tkt s (tkt s (tk s p).2.1 16).2.1 32).2.1)
/-- What stands behind a step's key. -/
def pStepTail (s : ByteArray) (k : Nat) (key : ByteArray) (b : Int) : Except (Int × Int) (OStep × Int) :=
  if k = 2 then .ok (⟨2, key, ByteArray.empty, ByteArray.empty, 0⟩, b)
  else if k = 3 then
    if (tki s b).2.2 ≠ 0 then .error ((tki s b).2.2, b) else .ok (⟨3, key, ByteArray.empty, ByteArray.empty, (tki s b).1⟩, (tki s b).2.1)
  else if (tkt s b 32).2.2 ≠ 0 then .error ((tkt s b 32).2.2, b)
  else if k = 1 then .ok (⟨1, key, (tkt s b 32).1, ByteArray.empty, 0⟩, (tkt s b 32).2.1)
  else if (tkt s (tkt s b 32).2.1 32).2.2 ≠ 0 then .error ((tkt s (tkt s b 32).2.1 32).2.2, (tkt s b 32).2.1)
  else .ok (⟨4, key, (tkt s (tkt s b 32).2.1 32).1, (tkt s b 32).1, 0⟩, (tkt s (tkt s b 32).2.1 32).2.1)
def pStep (s : ByteArray) (p : Int) : Except (Int × Int) (OStep × Int) :=
  if (tk s p).2.2 ≠ 0 then .error ((tk s p).2.2, p)
  else if (tk s p).1 < 1 ∨ 4 < (tk s p).1 then .error (5, p)
  else if (tkt s (tk s p).2.1 16).2.2 ≠ 0 then .error ((tkt s (tk s p).2.1 16).2.2, (tk s p).2.1)
  else pStepTail s (tk s p).1 (tkt s (tk s p).2.1 16).1 (tkt s (tk s p).2.1 16).2.1
/-- Parts in a row: their count, the first one's index, the place. -/
def pRow {α : Type} (one : Int → Except (Int × Int) (α × Int)) : Nat → Nat → Int → List α → Except (Nat × Int × Int) (List α × Int)
  | 0, _, p, out => .ok (out, p)
  | k + 1, i, p, out => match one p with
    | .error e => .error (i, e)
    | .ok x => pRow one k (i + 1) x.2 (out ++ [x.1])
/-- An operation at a place; or a code, its place, and the part (-1: none). -/
def pTake (s : ByteArray) (p : Int) : Except (Int × Int × Int) (OOp × Int) :=
  if (tk s p).2.2 ≠ 0 then .error ((tk s p).2.2, p, -1)
  else if 4 < (tk s p).1 then .error (3, p, -1)
  else match pRow (pGuard s) (tk s p).1 0 (tk s p).2.1 [] with
    | .error e => .error (e.2.1, e.2.2, (e.1 : Int))
    | .ok g =>
      if (tk s g.2).2.2 ≠ 0 then .error ((tk s g.2).2.2, g.2, -1)
      else if 4 < (tk s g.2).1 then .error (3, g.2, -1)
      else if (tk s g.2).1 = 0 then .error (4, g.2, -1)
      else match pRow (pStep s) (tk s g.2).1 (tk s p).1 (tk s g.2).2.1 [] with
        | .error e => .error (e.2.1, e.2.2, (e.1 : Int))
        | .ok x => .ok (⟨g.1, x.1⟩, x.2)
def pParse (s : ByteArray) : Except (Int × Int × Int) OOp :=
  match pTake s 0 with
  | .error e => .error e
  | .ok x => if x.2 < s.size then .error (3, x.2, -1) else .ok x.1

/-! ### the bytes come back -/
theorem pGuard_seg {s : ByteArray} {a : Nat} {g : OGuard} (hg : gRight g = true) (h : Seg s a (gBytes g)) : pGuard s a = .ok (g, ((a + (gBytes g).length : Nat) : Int)) := by
  obtain ⟨k, key, value⟩ := g
  simp only [gRight, decide_eq_true_eq] at hg
  obtain ⟨k1, k2, k3, k4, k5⟩ := hg
  unfold gBytes at h ⊢
  simp only at h ⊢
  obtain ⟨h1, h2⟩ := h.split
  have t1 := tk_seg (by omega) h1
  unfold pGuard
  rw [t1]
  simp only [ne_eq, not_true_eq_false, ↓reduceIte]
  rw [if_neg (by omega), tkt_seg (by omega) (by omega) h2.left]
  simp only [not_true_eq_false, ↓reduceIte]
  by_cases h3 : k = 3
  · subst h3
    simp only [↓reduceIte] at h2 ⊢
    have h4 := h2.right
    rw [if_neg (by decide), tkt_seg (by omega) (by omega) h4]
    simp only [not_true_eq_false, ↓reduceIte, List.length_append]
    congr 3
    omega
  · have hv : value = ByteArray.empty := by
      rcases k5 with h | h
      · exact absurd h h3
      · apply ba_ext
        rw [List.eq_nil_of_length_eq_zero (show value.data.toList.length = 0 by rw [size_list]; exact h)]
        rfl
    subst hv
    rw [if_pos (by omega), if_neg h3]
    simp only [List.length_append, List.length_nil, Nat.add_zero]
    rw [show ((k.toNat : Nat) : Int) = k by omega]
    congr 3
    omega
theorem empty_of {v : ByteArray} (h : v.size = 0) : v = ByteArray.empty := by
  apply ba_ext
  rw [List.eq_nil_of_length_eq_zero (show v.data.toList.length = 0 by rw [size_list]; exact h)]
  rfl
theorem pStep_seg {s : ByteArray} {a : Nat} {x : OStep} (hx : sRight x = true) (hf : sFit x) (h : Seg s a (sBytes x)) : pStep s a = .ok (x, ((a + (sBytes x).length : Nat) : Int)) := by
  obtain ⟨k, key, value, old, n⟩ := x
  simp only [sRight, decide_eq_true_eq] at hx
  obtain ⟨k1, k2, k3, k4, k5, k6, k7, k8⟩ := hx
  obtain ⟨f1, f2⟩ := hf
  simp only at f1 f2
  unfold sBytes at h ⊢
  simp only at h ⊢
  obtain ⟨h1, h2⟩ := h.split
  have t1 := tk_seg (by omega) h1
  unfold pStep
  rw [t1]
  simp only [ne_eq, not_true_eq_false, ↓reduceIte]
  rw [if_neg (by omega), tkt_seg (by omega) (by omega) h2.left]
  simp only [not_true_eq_false, ↓reduceIte]
  have h4 := h2.right
  unfold pStepTail
  have hk : k = 1 ∨ k = 2 ∨ k = 3 ∨ k = 4 := by omega
  rcases hk with rfl | rfl | rfl | rfl
  · obtain rfl := empty_of (show old.size = 0 by omega)
    obtain rfl : n = 0 := by omega
    simp only [↓reduceIte] at h4 ⊢
    rw [if_neg (by decide), if_neg (by decide), tkt_seg (by omega) (by omega) h4]
    simp only [ne_eq, not_true_eq_false, ↓reduceIte, List.length_append]
    rw [if_pos (by decide)]
    congr 3
    omega
  · obtain rfl := empty_of (show old.size = 0 by omega)
    obtain rfl := empty_of (show value.size = 0 by omega)
    obtain rfl : n = 0 := by omega
    rw [if_pos (by decide)]
    simp only [List.length_append, show ¬ ((2 : Int) = 1) by decide, show ¬ ((2 : Int) = 3) by decide, show ¬ ((2 : Int) = 4) by decide, if_false, List.length_nil, Nat.add_zero]
    congr 3
    omega
  · obtain rfl := empty_of (show old.size = 0 by omega)
    obtain rfl := empty_of (show value.size = 0 by omega)
    simp only [show ¬ ((3 : Int) = 1) by decide, ↓reduceIte] at h4 ⊢
    rw [if_neg (by decide), if_pos (by decide), tki_seg f1 f2 h4]
    simp only [ne_eq, not_true_eq_false, ↓reduceIte, List.length_append]
    congr 3
    omega
  · obtain rfl : n = 0 := by omega
    simp only [show ¬ ((4 : Int) = 1) by decide, show ¬ ((4 : Int) = 3) by decide, ↓reduceIte] at h4 ⊢
    obtain ⟨h5, h6⟩ := h4.split
    rw [if_neg (by decide), if_neg (by decide), tkt_seg (by omega) (by omega) h5]
    simp only [ne_eq, not_true_eq_false, ↓reduceIte]
    rw [if_neg (by decide), tkt_seg (by omega) (by omega) h6]
    simp only [not_true_eq_false, ↓reduceIte, List.length_append]
    congr 3
    omega
theorem pRow_seg {α : Type} {s : ByteArray} {one : Int → Except (Int × Int) (α × Int)} {bytes : α → List UInt8} {P : α → Prop} (hone : ∀ (a : Nat) x, P x → Seg s a (bytes x) → one a = .ok (x, ((a + (bytes x).length : Nat) : Int))) :
    ∀ (xs : List α) (i a : Nat) (out : List α), (∀ x ∈ xs, P x) → Seg s a (xs.flatMap bytes) → pRow one xs.length i a out = .ok (out ++ xs, ((a + (xs.flatMap bytes).length : Nat) : Int))
  | [], i, a, out, _, _ => by simp [pRow]
  | x :: xs, i, a, out, hp, h => by
    rw [List.flatMap_cons] at h
    obtain ⟨h1, h2⟩ := h.split
    rw [List.length_cons, pRow, hone a x (hp x (by simp)) h1]
    simp only
    rw [pRow_seg hone xs (i + 1) _ _ (fun y hy => hp y (by simp [hy])) h2]
    simp [Nat.add_assoc]
theorem pTake_seg {s : ByteArray} {a : Nat} {o : OOp} (ho : oRight o = true) (hf : ∀ x ∈ o.steps, sFit x) (h : Seg s a (oBytes o)) : pTake s a = .ok (o, ((a + (oBytes o).length : Nat) : Int)) := by
  obtain ⟨gs, ss⟩ := o
  simp only [oRight, Bool.and_eq_true, decide_eq_true_eq, List.all_eq_true] at ho
  obtain ⟨⟨⟨⟨g1, g2⟩, g3⟩, g4⟩, g5⟩ := ho
  simp only at hf
  unfold oBytes at h ⊢
  simp only at h ⊢
  obtain ⟨h1, h2⟩ := h.split
  obtain ⟨h3, h4⟩ := h2.split
  obtain ⟨h5, h6⟩ := h4.split
  have r1 := pRow_seg (one := pGuard s) (bytes := gBytes) (P := fun g => gRight g = true) (fun a x hx hs => pGuard_seg hx hs) gs 0 _ [] g4 h3
  have r2 := pRow_seg (one := pStep s) (bytes := sBytes) (P := fun x => sRight x = true ∧ sFit x) (fun a x hx hs => pStep_seg hx.1 hx.2 hs) ss gs.length _ [] (fun x hx => ⟨g5 x hx, hf x hx⟩) h6
  unfold pTake
  rw [tk_seg (by omega) h1]
  simp only [ne_eq, not_true_eq_false, ↓reduceIte]
  rw [if_neg (by omega), r1]
  simp only
  rw [tk_seg (by omega) h5]
  simp only [not_true_eq_false, ↓reduceIte]
  rw [if_neg (by omega), if_neg (by omega), r2]
  simp only [List.nil_append, List.length_append]
  congr 3
  omega
/-! ### what is read has just the bytes that were passed -/
theorem seg_pGuard {s : ByteArray} {p nx : Int} {g : OGuard} (h : pGuard s p = .ok (g, nx)) : ∃ a : Nat, p = a ∧ Seg s a (gBytes g) ∧ nx = ((a + (gBytes g).length : Nat) : Int) ∧ gRight g = true := by
  unfold pGuard at h
  split at h
  · cases h
  · rename_i h1
    have h1' : (tk s p).2.2 = 0 := Classical.byContradiction fun hc => h1 hc
    obtain ⟨a, rfl, s1, s2, s3⟩ := seg_tk h1'
    generalize (tk s (a : Int)).1 = k at *
    split at h
    · cases h
    · rename_i h2
      rw [s2] at h
      split at h
      · cases h
      · rename_i h3
        have h3' : (tkt s ((a + (sput k).length : Nat) : Int) 16).2.2 = 0 := Classical.byContradiction fun hc => h3 hc
        obtain ⟨a2, e2, s4, s5, s6⟩ := seg_tkt h3'
        generalize (tkt s ((a + (sput k).length : Nat) : Int) 16).1 = key at *
        rw [s5] at h
        obtain rfl : a + (sput k).length = a2 := by omega
        split at h
        · rename_i h4
          injection h with h
          obtain ⟨rfl, rfl⟩ := Prod.mk.inj h
          have h5 : ¬ ((k : Int) = 3) := by omega
          refine ⟨a, rfl, ?_, ?_, ?_⟩
          · unfold gBytes
            simp only [Int.toNat_natCast, h5, if_false, List.append_nil]
            exact s1.append s4
          · unfold gBytes
            simp only [Int.toNat_natCast, h5, if_false, List.append_nil, List.length_append]
            omega
          · simp only [gRight, decide_eq_true_eq]
            exact ⟨by omega, by omega, by omega, by decide, .inr rfl⟩
        · rename_i h4
          split at h
          · cases h
          · rename_i h5
            have h5' : (tkt s ((a + (sput k).length + (stxt key).length : Nat) : Int) 32).2.2 = 0 := Classical.byContradiction fun hc => h5 hc
            obtain ⟨a3, e3, s7, s8, s9⟩ := seg_tkt h5'
            generalize (tkt s ((a + (sput k).length + (stxt key).length : Nat) : Int) 32).1 = val at *
            rw [s8] at h
            injection h with h
            obtain ⟨rfl, rfl⟩ := Prod.mk.inj h
            obtain rfl : a + (sput k).length + (stxt key).length = a3 := by omega
            obtain rfl : k = 3 := by omega
            refine ⟨a, rfl, ?_, ?_, ?_⟩
            · unfold gBytes
              simp only [↓reduceIte]
              exact s1.append (s4.append s7)
            · unfold gBytes
              simp only [↓reduceIte, List.length_append]
              show _ = ((a + ((sput 3).length + _) : Nat) : Int)
              omega
            · simp only [gRight, decide_eq_true_eq]
              exact ⟨by omega, by omega, by omega, by omega, .inl trivial⟩
theorem seg_pStep {s : ByteArray} {p nx : Int} {x : OStep} (h : pStep s p = .ok (x, nx)) : ∃ a : Nat, p = a ∧ Seg s a (sBytes x) ∧ nx = ((a + (sBytes x).length : Nat) : Int) ∧ sRight x = true ∧ sFit x := by
  unfold pStep at h
  split at h
  · cases h
  · rename_i h1
    have h1' : (tk s p).2.2 = 0 := Classical.byContradiction fun hc => h1 hc
    obtain ⟨a, rfl, s1, s2, s3⟩ := seg_tk h1'
    generalize (tk s (a : Int)).1 = k at *
    split at h
    · cases h
    · rename_i h2
      rw [s2] at h
      split at h
      · cases h
      · rename_i h3
        have h3' : (tkt s ((a + (sput k).length : Nat) : Int) 16).2.2 = 0 := Classical.byContradiction fun hc => h3 hc
        obtain ⟨a2, e2, s4, s5, s6⟩ := seg_tkt h3'
        generalize (tkt s ((a + (sput k).length : Nat) : Int) 16).1 = key at *
        rw [s5] at h
        obtain rfl : a + (sput k).length = a2 := by omega
        clear h1 h1' h3 h3' s2 s5 e2
        have hk : k = 1 ∨ k = 2 ∨ k = 3 ∨ k = 4 := by omega
        unfold pStepTail at h
        rcases hk with rfl | rfl | rfl | rfl
        · rw [if_neg (by decide), if_neg (by decide)] at h
          split at h
          · cases h
          · rename_i h4
            have h4' := Classical.byContradiction fun hc => h4 hc
            obtain ⟨a3, e3, s7, s8, s9⟩ := seg_tkt h4'
            rw [if_pos rfl, s8] at h
            injection h with h
            obtain ⟨rfl, rfl⟩ := Prod.mk.inj h
            obtain rfl : a + (sput 1).length + (stxt key).length = a3 := by omega
            refine ⟨a, rfl, ?_, ?_, ?_, ?_⟩
            · unfold sBytes
              simp only [↓reduceIte]
              exact s1.append (s4.append s7)
            · unfold sBytes
              simp only [↓reduceIte, List.length_append]
              show _ = ((a + ((sput 1).length + _) : Nat) : Int)
              omega
            · simp only [sRight, decide_eq_true_eq]
              exact ⟨by omega, by omega, by omega, by omega, by decide, .inl rfl, .inr (.inl trivial), .inl trivial⟩
            · exact ⟨show (-9223372036854775808 : Int) ≤ 0 by decide, show (0 : Int) ≤ 9223372036854775807 by decide⟩
        · rw [if_pos rfl] at h
          injection h with h
          obtain ⟨rfl, rfl⟩ := Prod.mk.inj h
          refine ⟨a, rfl, ?_, ?_, ?_, ?_⟩
          · unfold sBytes
            simp only [show ¬ ((2 : Int) = 1) by decide, show ¬ ((2 : Int) = 3) by decide, show ¬ ((2 : Int) = 4) by decide, if_false, List.append_nil]
            exact s1.append s4
          · unfold sBytes
            simp only [show ¬ ((2 : Int) = 1) by decide, show ¬ ((2 : Int) = 3) by decide, show ¬ ((2 : Int) = 4) by decide, if_false, List.append_nil, List.length_append]
            show _ = ((a + ((sput 2).length + _) : Nat) : Int)
            omega
          · simp only [sRight, decide_eq_true_eq]
            exact ⟨by omega, by omega, by omega, by decide, by decide, .inl rfl, .inl rfl, .inl trivial⟩
          · exact ⟨show (-9223372036854775808 : Int) ≤ 0 by decide, show (0 : Int) ≤ 9223372036854775807 by decide⟩
        · rw [if_neg (by decide), if_pos rfl] at h
          split at h
          · cases h
          · rename_i h4
            have h4' := Classical.byContradiction fun hc => h4 hc
            obtain ⟨a3, e3, s7, s8, s9, s10⟩ := seg_tki h4'
            rw [s8] at h
            injection h with h
            obtain ⟨rfl, rfl⟩ := Prod.mk.inj h
            obtain rfl : a + (sput 3).length + (stxt key).length = a3 := by omega
            refine ⟨a, rfl, ?_, ?_, ?_, ?_⟩
            · unfold sBytes
              simp only [show ¬ ((3 : Int) = 1) by decide, ↓reduceIte]
              exact s1.append (s4.append s7)
            · unfold sBytes
              simp only [show ¬ ((3 : Int) = 1) by decide, ↓reduceIte, List.length_append]
              show _ = ((a + ((sput 3).length + _) : Nat) : Int)
              omega
            · simp only [sRight, decide_eq_true_eq]
              exact ⟨by omega, by omega, by omega, by decide, by decide, .inl rfl, .inl rfl, .inr trivial⟩
            · exact ⟨s9, s10⟩
        · rw [if_neg (by decide), if_neg (by decide)] at h
          split at h
          · cases h
          · rename_i h4
            have h4' := Classical.byContradiction fun hc => h4 hc
            obtain ⟨a3, e3, s7, s8, s9⟩ := seg_tkt h4'
            rw [if_neg (by decide), s8] at h
            split at h
            · cases h
            · rename_i h5
              have h5' := Classical.byContradiction fun hc => h5 hc
              obtain ⟨a4, e4, s10, s11, s12⟩ := seg_tkt h5'
              rw [s11] at h
              injection h with h
              obtain ⟨rfl, rfl⟩ := Prod.mk.inj h
              obtain rfl : a + (sput 4).length + (stxt key).length = a3 := by omega
              have e4' := Int.ofNat.inj e4
              subst e4'
              refine ⟨a, rfl, ?_, ?_, ?_, ?_⟩
              · unfold sBytes
                simp only [show ¬ ((4 : Int) = 1) by decide, show ¬ ((4 : Int) = 3) by decide, ↓reduceIte]
                exact s1.append (s4.append (s7.append s10))
              · unfold sBytes
                simp only [show ¬ ((4 : Int) = 1) by decide, show ¬ ((4 : Int) = 3) by decide, ↓reduceIte, List.length_append]
                show _ = ((a + ((sput 4).length + _) : Nat) : Int)
                omega
              · simp only [sRight, decide_eq_true_eq]
                exact ⟨by omega, by omega, by omega, by omega, by omega, .inr trivial, .inr (.inr trivial), .inl trivial⟩
              · exact ⟨show (-9223372036854775808 : Int) ≤ 0 by decide, show (0 : Int) ≤ 9223372036854775807 by decide⟩
theorem seg_pRow {α : Type} {s : ByteArray} {one : Int → Except (Int × Int) (α × Int)} {bytes : α → List UInt8} {P : α → Prop} (hone : ∀ p x nx, one p = .ok (x, nx) → ∃ a : Nat, p = a ∧ Seg s a (bytes x) ∧ nx = ((a + (bytes x).length : Nat) : Int) ∧ P x) :
    ∀ (k i a : Nat) (out ys : List α) (nx : Int), a ≤ s.size → pRow one k i a out = .ok (ys, nx) → ∃ xs, ys = out ++ xs ∧ xs.length = k ∧ Seg s a (xs.flatMap bytes) ∧ nx = ((a + (xs.flatMap bytes).length : Nat) : Int) ∧ ∀ x ∈ xs, P x
  | 0, i, a, out, ys, nx, ha, h => by
    rw [pRow] at h
    injection h with h
    obtain ⟨rfl, rfl⟩ := Prod.mk.inj h
    exact ⟨[], by simp, rfl, Seg.nil ha, by simp, by simp⟩
  | k + 1, i, a, out, ys, nx, ha, h => by
    rw [pRow] at h
    split at h
    · cases h
    · rename_i x hx
      obtain ⟨a', e1, e2, e3, e4⟩ := hone _ x.1 x.2 hx
      obtain rfl : a = a' := by omega
      rw [e3] at h
      obtain ⟨xs, f1, f2, f3, f4, f5⟩ := seg_pRow hone k (i + 1) _ _ _ _ e2.le h
      refine ⟨x.1 :: xs, by rw [f1]; simp, by simp [f2], by rw [List.flatMap_cons]; exact e2.append f3, ?_, ?_⟩
      · rw [f4, List.flatMap_cons, List.length_append, Nat.add_assoc]
      · intro y hy
        rcases List.mem_cons.1 hy with rfl | hy
        · exact e4
        · exact f5 y hy
theorem seg_pTake {s : ByteArray} {p nx : Int} {o : OOp} (h : pTake s p = .ok (o, nx)) : ∃ a : Nat, p = a ∧ Seg s a (oBytes o) ∧ nx = ((a + (oBytes o).length : Nat) : Int) ∧ oRight o = true ∧ ∀ x ∈ o.steps, sFit x := by
  unfold pTake at h
  split at h
  · cases h
  · rename_i h1
    have h1' : (tk s p).2.2 = 0 := Classical.byContradiction fun hc => h1 hc
    obtain ⟨a, rfl, s1, s2, s3⟩ := seg_tk h1'
    generalize (tk s (a : Int)).1 = k at *
    split at h
    · cases h
    · rename_i h2
      rw [s2] at h
      split at h
      · cases h
      · rename_i g hg
        obtain ⟨gs, q⟩ := g
        obtain ⟨gs', e1, e2, e3, e4, e5⟩ := seg_pRow (bytes := gBytes) (P := fun g => gRight g = true) (fun p x nx hx => seg_pGuard hx) _ _ _ _ _ _ s1.le hg
        simp only [List.nil_append] at e1
        subst e1
        simp only at h
        rw [e4] at h
        split at h
        · cases h
        · rename_i h3
          have h3' := Classical.byContradiction fun hc => h3 hc
          obtain ⟨a2, f1, f2, f3, f4⟩ := seg_tk h3'
          obtain rfl := Int.ofNat.inj f1
          split at h
          · cases h
          · rename_i h4
            split at h
            · cases h
            · rename_i h5
              rw [f3] at h
              split at h
              · cases h
              · rename_i x hx
                obtain ⟨ss, q2⟩ := x
                obtain ⟨ss', g1, g2, g3, g4, g5⟩ := seg_pRow (bytes := sBytes) (P := fun x => sRight x = true ∧ sFit x) (fun p x nx hx => seg_pStep hx) _ _ _ _ _ _ f2.le hx
                simp only [List.nil_append] at g1
                subst g1
                injection h with h
                obtain ⟨rfl, rfl⟩ := Prod.mk.inj h
                rw [← g2] at f2 g3 g4 h4 h5
                rw [← e2] at s1 e3 f2 g3 g4 h2
                refine ⟨a, rfl, ?_, ?_, ?_, fun x hx => (g5 x hx).2⟩
                · unfold oBytes
                  exact s1.append (e3.append (f2.append g3))
                · simp only
                  rw [g4]
                  unfold oBytes
                  simp only [List.length_append]
                  omega
                · simp only [oRight, Bool.and_eq_true, decide_eq_true_eq, List.all_eq_true]
                  exact ⟨⟨⟨⟨by omega, by omega⟩, by omega⟩, e5⟩, fun x hx => (g5 x hx).1⟩
/-- All that there is. -/
theorem pParse_back {o : OOp} (ho : oRight o = true) (hf : ∀ x ∈ o.steps, sFit x) : pParse (bs (oBytes o)) = .ok o := by
  have h := pTake_seg ho hf (Seg.all (s := bs (oBytes o)) rfl)
  unfold pParse
  rw [show (0 : Int) = ((0 : Nat) : Int) from rfl, h]
  simp only
  rw [if_neg (by rw [size_bs]; omega)]
theorem back_pParse {s : ByteArray} {o : OOp} (h : pParse s = .ok o) : oRight o = true ∧ bs (oBytes o) = s ∧ ∀ x ∈ o.steps, sFit x := by
  unfold pParse at h
  split at h
  · cases h
  · rename_i x hx
    obtain ⟨o', nx⟩ := x
    obtain ⟨a, e1, e2, e3, e4, e5⟩ := seg_pTake hx
    obtain rfl : 0 = a := by omega
    simp only at h
    split at h
    · cases h
    · rename_i h1
      injection h with h
      subst h
      have h2 := e2.le
      exact ⟨e4, (e2.whole (by omega)).symm, e5⟩
/-! ### the codes -/
def cOk (c : Int) : Prop := c = 1 ∨ c = 2 ∨ c = 3 ∨ c = 4 ∨ c = 5
theorem tk_cOk {s : ByteArray} {p : Int} (h : (tk s p).2.2 ≠ 0) : cOk (tk s p).2.2 := by have := tk_code s p; unfold cOk; omega
theorem tki_cOk {s : ByteArray} {p : Int} (h : (tki s p).2.2 ≠ 0) : cOk (tki s p).2.2 := by
  unfold tki at h ⊢
  split
  · rename_i h1; rw [if_pos h1] at h; exact absurd rfl h
  · rename_i h1; exact tk_cOk h1
theorem tkt_cOk {s : ByteArray} {p m : Int} (h : (tkt s p m).2.2 ≠ 0) : cOk (tkt s p m).2.2 := by
  unfold tkt at h ⊢
  split
  · rename_i h1; exact tk_cOk h1
  · rename_i h1
    rw [if_neg h1] at h
    split
    · exact .inr (.inr (.inl rfl))
    · rename_i h2
      rw [if_neg h2] at h
      split
      · exact .inr (.inl rfl)
      · rename_i h3
        rw [if_neg h3] at h
        exact absurd rfl h
theorem pGuard_cOk {s : ByteArray} {p : Int} {e : Int × Int} (h : pGuard s p = .error e) : cOk e.1 := by
  unfold pGuard at h
  split at h
  · rename_i h1; injection h with h; subst h; exact tk_cOk h1
  · split at h
    · injection h with h; subst h; exact .inr (.inr (.inr (.inr rfl)))
    · split at h
      · rename_i h1; injection h with h; subst h; exact tkt_cOk h1
      · split at h
        · cases h
        · split at h
          · rename_i h1; injection h with h; subst h; exact tkt_cOk h1
          · cases h
theorem pStep_cOk {s : ByteArray} {p : Int} {e : Int × Int} (h : pStep s p = .error e) : cOk e.1 := by
  unfold pStep at h
  split at h
  · rename_i h1; injection h with h; subst h; exact tk_cOk h1
  · split at h
    · injection h with h; subst h; exact .inr (.inr (.inr (.inr rfl)))
    · split at h
      · rename_i h1; injection h with h; subst h; exact tkt_cOk h1
      · unfold pStepTail at h
        split at h
        · cases h
        · split at h
          · split at h
            · rename_i h1; injection h with h; subst h; exact tki_cOk h1
            · cases h
          · split at h
            · rename_i h1; injection h with h; subst h; exact tkt_cOk h1
            · split at h
              · cases h
              · split at h
                · rename_i h1; injection h with h; subst h; exact tkt_cOk h1
                · cases h
theorem pRow_cOk {α : Type} {one : Int → Except (Int × Int) (α × Int)} (hone : ∀ p e, one p = .error e → cOk e.1) : ∀ (k i : Nat) (p : Int) (out : List α) (e : Nat × Int × Int), pRow one k i p out = .error e → cOk e.2.1 ∧ i ≤ e.1 ∧ e.1 < i + k
  | 0, i, p, out, e, h => by rw [pRow] at h; cases h
  | k + 1, i, p, out, e, h => by
    rw [pRow] at h
    split at h
    · rename_i e' he
      injection h with h
      subst h
      exact ⟨hone _ _ he, by simp, by simp⟩
    · obtain ⟨h1, h2, h3⟩ := pRow_cOk hone k (i + 1) _ _ _ h
      exact ⟨h1, by omega, by omega⟩
theorem pTake_cOk {s : ByteArray} {p : Int} {e : Int × Int × Int} (h : pTake s p = .error e) : cOk e.1 ∧ (e.2.2 = -1 ∨ (0 ≤ e.2.2 ∧ e.2.2 < 8)) := by
  unfold pTake at h
  split at h
  · rename_i h1; injection h with h; subst h; exact ⟨tk_cOk h1, .inl rfl⟩
  · split at h
    · injection h with h; subst h; exact ⟨.inr (.inr (.inl rfl)), .inl rfl⟩
    · rename_i h4
      split at h
      · rename_i he
        obtain ⟨h1, h2, h3⟩ := pRow_cOk (fun p e => pGuard_cOk) _ _ _ _ _ he
        injection h with h; subst h
        exact ⟨h1, .inr ⟨by simp only; omega, by simp only; omega⟩⟩
      · split at h
        · rename_i h1; injection h with h; subst h; exact ⟨tk_cOk h1, .inl rfl⟩
        · split at h
          · injection h with h; subst h; exact ⟨.inr (.inr (.inl rfl)), .inl rfl⟩
          · rename_i h5
            split at h
            · injection h with h; subst h; exact ⟨.inr (.inr (.inr (.inl rfl))), .inl rfl⟩
            · split at h
              · rename_i he
                obtain ⟨h1, h2, h3⟩ := pRow_cOk (fun p e => pStep_cOk) _ _ _ _ _ he
                injection h with h; subst h
                exact ⟨h1, .inr ⟨by simp only; omega, by simp only; omega⟩⟩
              · cases h
end Go.Proofs.YtpkkjoiglemlgaaGreatDoor
