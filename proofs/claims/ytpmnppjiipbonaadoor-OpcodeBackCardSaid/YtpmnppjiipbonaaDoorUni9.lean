/-
  Parse and Take, read through one pair of eyes (layer 9). No condition.
-/
import Derived.Test.YtpmnppjiipbonaaDoorAwake9
import Derived.Test.YtpmnppjiipbonaaDoorOrp
namespace Go.Proofs.YtpmnppjiipbonaaDoor
set_option linter.unusedVariables false
open Go.RowKit Go.Extern.Stop Go.Stop Go.Extern Go.ChangeShapes

def rOp : Except (Int × Int × Int) OOp → OOp
  | .ok o => o
  | .error _ => ⟨[], []⟩
def rC {α : Type} : Except (Int × Int × Int) α → Int
  | .ok _ => 0
  | .error e => e.1
def rA {α : Type} : Except (Int × Int × Int) α → Int
  | .ok _ => 0
  | .error e => e.2.1
def rP {α : Type} : Except (Int × Int × Int) α → Int
  | .ok _ => -1
  | .error e => e.2.2
def rFst : Except (Int × Int × Int) (OOp × Int) → Except (Int × Int × Int) OOp
  | .ok x => .ok x.1
  | .error e => .error e
def rN : Except (Int × Int × Int) (OOp × Int) → Int
  | .ok x => x.2
  | .error _ => 0
def WrongIs (w : World) (sv : Nat → Addr) (v : Value) (c a p : Int) : Prop := (c = 0 ∧ v = .nilIface) ∨ (c ≠ 0 ∧ ErrIs w sv v (if p < 0 then [a] else [p, a]) (sIdx c) ∧ sCode (sIdx c) = c)
theorem WrongIs.under {w w' : World} {sv : Nat → Addr} {v : Value} {c a p : Int} (hb : Below w.heap.size w w') (h : WrongIs w sv v c a p) : WrongIs w' sv v c a p :=
  h.imp id fun ⟨h1, h2, h3⟩ => ⟨h1, ErrIs.under hb h2, h3⟩
theorem WrongIs.far {w : World} {sv : Nat → Addr} {b : Nat} {t : TypeId} {cs : Array Value} {v : Value} {c a p : Int} (hB : Blk w b t cs) (ht : 111 ≠ t) (i : Nat) (u : Value) (h : WrongIs w sv v c a p) : WrongIs (w.setCell ⟨b, i, none⟩ u) sv v c a p :=
  h.imp id fun ⟨h1, h2, h3⟩ => ⟨h1, err_stays (fun b' cs' hb => Blk.far hb (show b' ≠ b from Blk.ne_ hb hB ht) _) h2, h3⟩
theorem OpIs.form {w : World} {v : Value} {o : OOp} (h : OpIs w v o) : ∃ A n c A' n' c', v = .agg #[.slice A n c, .slice A' n' c'] := by
  obtain ⟨A, n, c, A', n', c', e, _⟩ := h
  exact ⟨A, n, c, A', n', c', e⟩
theorem OpIs.zero (w : World) : OpIs w zeroOp ⟨[], []⟩ := ⟨none, 0, 0, none, 0, 0, rfl, rfl, rfl, Reads.none_, Reads.none_⟩
/-- An operation that the call made, or none. -/
def OpU (w : World) (B : Nat) (v : Value) (o : OOp) : Prop := OwnOp w B v o ∨ (v = zeroOp ∧ o = ⟨[], []⟩)
theorem OpU.is {w : World} {B : Nat} {v : Value} {o : OOp} (h : OpU w B v o) : OpIs w v o := by
  rcases h with h | ⟨rfl, rfl⟩
  · exact h.is
  · exact OpIs.zero w
theorem OpU.below {w w' : World} {B : Nat} {v : Value} {o : OOp} (h : OpU w B v o) (hb : Below w.heap.size w w') : OpU w' B v o := h.imp (fun h => h.below hb) id
theorem OpU.mono {w : World} {B B' : Nat} {v : Value} {o : OOp} (h : OpU w B v o) (hB : B' ≤ B) : OpU w B' v o := h.imp (fun h => h.mono hB) id
theorem OpU.low {w : World} {B : Nat} {v : Value} {o : OOp} (h : OpU w B v o) {p : Addr} (hp : p.block < B) (u : Value) : OpU (w.setCell p u) B v o := by
  refine h.imp (fun h => ?_) id
  obtain ⟨A, c, A', c', e, h1, h2⟩ := h
  exact ⟨A, c, A', c', e, own_low h1 hp u, own_low h2 hp u⟩
theorem pParse_cOk {s : ByteArray} {e : Int × Int × Int} (h : pParse s = .error e) : cOk e.1 := by
  unfold pParse at h
  split at h
  · rename_i he
    injection h with h
    subst h
    exact (pTake_cOk he).1
  · split at h
    · injection h with h
      subst h
      exact .inr (.inr (.inl rfl))
    · cases h
theorem right_len {o : OOp} (h : oRight o = true) : o.guards.length ≤ maxLen ∧ o.steps.length ≤ maxLen := by
  simp only [oRight, Bool.and_eq_true, decide_eq_true_eq] at h
  unfold maxLen
  omega
theorem rOp_len_parse (s : ByteArray) : (rOp (pParse s)).guards.length ≤ maxLen ∧ (rOp (pParse s)).steps.length ≤ maxLen := by
  cases h : pParse s with
  | ok o => exact right_len (back_pParse h).1
  | error e => exact ⟨Nat.zero_le _, Nat.zero_le _⟩
theorem rOp_len_take (s : ByteArray) (p : Int) : (rOp (rFst (pTake s p))).guards.length ≤ maxLen ∧ (rOp (rFst (pTake s p))).steps.length ≤ maxLen := by
  cases h : pTake s p with
  | ok x =>
    obtain ⟨a, _, _, _, h4, _⟩ := seg_pTake (o := x.1) (nx := x.2) h
    exact right_len h4
  | error e => exact ⟨Nat.zero_le _, Nat.zero_le _⟩
theorem opParse_uni {w : World} {sv : Nat → Addr} (S : Sent w sv) (T : ETy w) (s : ByteArray) (hs : s.size ≤ 1000000) :
    Calls Tryd.prog 23 #[.string s] w fun e w' => ∃ A n c A' n' c' err, e = .returned (.tuple #[.agg #[.slice A n c, .slice A' n' c'], err]) ∧ OpU w' w.heap.size (.agg #[.slice A n c, .slice A' n' c']) (rOp (pParse s)) ∧ WrongIs w' sv err (rC (pParse s)) (rA (pParse s)) (rP (pParse s)) ∧ Below w.heap.size w w' := by
  refine (opParse_any S T s hs).mono ?_
  rintro e w' ⟨v, err, rfl, hp, hb⟩
  cases h : pParse s with
  | ok o =>
    rw [h] at hp
    obtain ⟨ho, rfl⟩ := hp
    have hI := ho.is
    obtain ⟨A, n, c, A', n', c', rfl⟩ := hI.form
    exact ⟨A, n, c, A', n', c', _, rfl, .inl ho, .inl ⟨rfl, rfl⟩, hb⟩
  | error er =>
    rw [h] at hp
    obtain ⟨rfl, hE⟩ := hp
    obtain ⟨_, k2, k3, _⟩ := cOk_idx (pParse_cOk h)
    exact ⟨none, 0, 0, none, 0, 0, err, rfl, .inr ⟨rfl, rfl⟩, .inr ⟨k3, hE, k2⟩, hb⟩
theorem refParseO_uni {w : World} (s : ByteArray) (hs : s.size ≤ 1000000) :
    Calls Tryd.prog 29 #[.string s] w fun e w' => ∃ A n c A' n' c', e = .returned (.tuple #[.agg #[.slice A n c, .slice A' n' c'], .agg #[.int .i64 (rC (pParse s)), .int .i64 (rA (pParse s)), .int .i64 (rP (pParse s))]]) ∧ OpU w' w.heap.size (.agg #[.slice A n c, .slice A' n' c']) (rOp (pParse s)) ∧ Below w.heap.size w w' := by
  refine (refParseO_any s hs).mono ?_
  rintro e w' ⟨v, wv, rfl, hp, hb⟩
  cases h : pParse s with
  | ok o =>
    rw [h] at hp
    obtain ⟨ho, rfl⟩ := hp
    have hI := ho.is
    obtain ⟨A, n, c, A', n', c', rfl⟩ := hI.form
    exact ⟨A, n, c, A', n', c', rfl, .inl ho, hb⟩
  | error er =>
    rw [h] at hp
    obtain ⟨rfl, rfl⟩ := hp
    exact ⟨none, 0, 0, none, 0, 0, rfl, .inr ⟨rfl, rfl⟩, hb⟩
theorem opTake_uni {w : World} {sv : Nat → Addr} (S : Sent w sv) (T : ETy w) (s : ByteArray) (p : Int) (hs : s.size ≤ 1000000) :
    Calls Tryd.prog 24 #[.string s, .int .i64 p] w fun e w' => ∃ A n c A' n' c' err, e = .returned (.tuple #[.agg #[.slice A n c, .slice A' n' c'], .int .i64 (rN (pTake s p)), err]) ∧ OpU w' w.heap.size (.agg #[.slice A n c, .slice A' n' c']) (rOp (rFst (pTake s p))) ∧ WrongIs w' sv err (rC (pTake s p)) (rA (pTake s p)) (rP (pTake s p)) ∧ Below w.heap.size w w' := by
  refine (opTake_any S T s p hs).mono ?_
  rintro e w' ⟨v, nx, err, rfl, hp, hb⟩
  cases h : pTake s p with
  | ok o =>
    rw [h] at hp
    obtain ⟨ho, rfl, rfl⟩ := hp
    have hI := ho.is
    obtain ⟨A, n, c, A', n', c', rfl⟩ := hI.form
    exact ⟨A, n, c, A', n', c', _, rfl, .inl ho, .inl ⟨rfl, rfl⟩, hb⟩
  | error er =>
    rw [h] at hp
    obtain ⟨rfl, rfl, hE⟩ := hp
    obtain ⟨_, k2, k3, _⟩ := cOk_idx (pTake_cOk h).1
    exact ⟨none, 0, 0, none, 0, 0, err, rfl, .inr ⟨rfl, rfl⟩, .inr ⟨k3, hE, k2⟩, hb⟩
theorem refTakeO_uni {w : World} (s : ByteArray) (p : Int) (hs : s.size ≤ 1000000) :
    Calls Tryd.prog 31 #[.string s, .int .i64 p] w fun e w' => ∃ A n c A' n' c', e = .returned (.tuple #[.agg #[.slice A n c, .slice A' n' c'], .int .i64 (rN (pTake s p)), .agg #[.int .i64 (rC (pTake s p)), .int .i64 (rA (pTake s p)), .int .i64 (rP (pTake s p))]]) ∧ OpU w' w.heap.size (.agg #[.slice A n c, .slice A' n' c']) (rOp (rFst (pTake s p))) ∧ Below w.heap.size w w' := by
  refine (refTakeO_any s p hs).mono ?_
  rintro e w' ⟨v, nx, wv, rfl, hp, hb⟩
  cases h : pTake s p with
  | ok o =>
    rw [h] at hp
    obtain ⟨ho, rfl, rfl⟩ := hp
    have hI := ho.is
    obtain ⟨A, n, c, A', n', c', rfl⟩ := hI.form
    exact ⟨A, n, c, A', n', c', rfl, .inl ho, hb⟩
  | error er =>
    rw [h] at hp
    obtain ⟨rfl, rfl, rfl⟩ := hp
    exact ⟨none, 0, 0, none, 0, 0, rfl, .inr ⟨rfl, rfl⟩, hb⟩
end Go.Proofs.YtpmnppjiipbonaaDoor
