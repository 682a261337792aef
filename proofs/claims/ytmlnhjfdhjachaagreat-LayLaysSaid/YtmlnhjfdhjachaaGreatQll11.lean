import Derived.Deep.CutRange
import Derived.Deep.RegionHeld3
import Derived.StillTailTactics
import Derived.Test.YtmlnhjfdhjachaaGreatQll10
/-
  Looking for a key's shelf (layer 23): the plain law. No condition.
-/
namespace Go.Proofs.YtmlnhjfdhjachaaGreat
set_option linter.unusedVariables false
open Go.ChangeShapes Go.WideShapes Go.ChangeAt Go.RowKit
open Go.ChangeMaps (setBlock)

def kcell (c : PCfg) (j : Nat) : Nat := (3 + c.pins + c.cap).toNat + 2 * j
theorem kcell_eq {c : PCfg} (h : c.Right) (j : Nat) : ((kcell c j : Nat) : Int) = 3 + c.pins + c.cap + 2 * j := by
  have := h.pins
  have := h.cap
  unfold kcell
  omega
/-- Which key stands on which shelf, and the blocks that have them. -/
structure Shelved (S : PHeap) (c : PCfg) (tx : Nat → Option ByteArray) : Prop where
  at_ : ∀ j : Nat, (j : Int) < c.shelves → ∃ v, CtlAt S (kcell c j) v ∧ (tx j = none → v = 0) ∧ (∀ t, tx j = some t → 2 ≤ v ∧ ∃ b, S.find v = some b ∧ b.text = t)
  keys : ∀ x ∈ S.blocks, x.key ≤ S.last
  one : 1 ≤ S.last
theorem field_shelved (c : PCfg) (hc : c.Right) (r : Nat) : Shelved (fieldS c r) c (fun _ => none) := by
  refine ⟨fun j hj => ⟨0, field_ctl c r (kcell c j) ?_, fun _ => rfl, fun t h => by cases h⟩, fun x hx => ?_, Int.le_refl _⟩
  · have h1 := kcell_eq hc j
    have h2 := (ctlSize_eq hc).1
    omega
  · simp [fieldS] at hx
    rw [hx]
    exact Int.le_refl _
/-- The heap with one block more. -/
def PHeap.more (S : PHeap) (r : Nat) (t : ByteArray) : PHeap := { S with blocks := S.blocks ++ [⟨S.last + 1, r, List.replicate 0 0, t⟩], last := S.last + 1 }
theorem more_find_old {S : PHeap} {b : Int} {x : PBlk} (h : S.find b = some x) (r : Nat) (t : ByteArray) : (S.more r t).find b = some x := by
  unfold PHeap.find PHeap.more at *
  rw [List.find?_append, h]
  rfl
theorem more_find_new {S : PHeap} (hk : ∀ x ∈ S.blocks, x.key ≤ S.last) (r : Nat) (t : ByteArray) : (S.more r t).find (S.last + 1) = some ⟨S.last + 1, r, List.replicate 0 0, t⟩ := by
  unfold PHeap.find PHeap.more
  rw [List.find?_append]
  have : S.blocks.find? (fun b => b.key == S.last + 1) = none := by
    rw [List.find?_eq_none]
    intro x hx
    have := hk x hx
    simp
    omega
  rw [this]
  simp
theorem CtlAt.more {S : PHeap} {i : Nat} {x : Int} (h : CtlAt S i x) (r : Nat) (t : ByteArray) : CtlAt (S.more r t) i x := by
  obtain ⟨b, h1, h2, h3⟩ := h
  exact ⟨b, more_find_old h1 r t, h2, h3⟩
def putT (tx : Nat → Option ByteArray) (p : Nat) (t : ByteArray) : Nat → Option ByteArray := fun j => if j = p then some t else tx j
theorem Shelved.put {S : PHeap} {c : PCfg} {tx : Nat → Option ByteArray} (h : Shelved S c tx) (p : Nat) (hp : (p : Int) < c.shelves) (r : Nat) (t : ByteArray) : Shelved ((S.more r t).set 1 (kcell c p) (S.last + 1)) c (putT tx p t) := by
  have h1 := h.one
  refine ⟨fun j hj => ?_, fun x hx => ?_, by show 1 ≤ S.last + 1; omega⟩
  · by_cases hjp : j = p
    · subst hjp
      obtain ⟨v, k1, _⟩ := h.at_ j hj
      refine ⟨S.last + 1, (k1.more r t).same _, fun k => by simp [putT] at k, fun t' k => ?_⟩
      have e : t = t' := by simpa [putT] using k
      subst e
      refine ⟨by omega, ⟨S.last + 1, r, List.replicate 0 0, t⟩, ?_, rfl⟩
      rw [find_other _ _ _ _ _ (by omega)]
      exact more_find_new h.keys r t
    · obtain ⟨v, k1, k2, k3⟩ := h.at_ j hj
      refine ⟨v, (k1.more r t).other _ (by unfold kcell; omega), fun k => k2 (by simpa [putT, hjp] using k), fun t' k => ?_⟩
      obtain ⟨k4, b, k5, k6⟩ := k3 t' (by simpa [putT, hjp] using k)
      refine ⟨k4, b, ?_, k6⟩
      rw [find_other _ _ _ _ _ (by omega)]
      exact more_find_old k5 r t
  · obtain ⟨y, hy, rfl⟩ := List.mem_map.1 hx
    have hk : y.key ≤ S.last + 1 := by
      rcases List.mem_append.1 hy with hy | hy
      · have := h.keys y hy
        omega
      · simp at hy
        rw [hy]
        exact Int.le_refl _
    show (if y.key = 1 then ({ y with cells := y.cells.set (kcell c p) (S.last + 1) } : PBlk) else y).key ≤ S.last + 1
    split <;> exact hk
/-- What is found, where, and in how many acts: from the k-th place on. -/
def lookP (key : ByteArray) (pl : Nat → Nat) (tx : Nat → Option ByteArray) : Nat → Nat → Int × Int × Nat
  | 0, _ => (3, 0, 0)
  | d + 1, k => match tx (pl k) with
    | none => (2, (pl k : Nat), 1)
    | some t => if t = key then (1, (pl k : Nat), 2) else ((lookP key pl tx d (k + 1)).1, (lookP key pl tx d (k + 1)).2.1, (lookP key pl tx d (k + 1)).2.2 + 2)
def plN (c : PCfg) (key : ByteArray) (i : Nat) : Nat := (placeP (sumP c.seed key) c.shelves i).toNat
theorem plN_eq {c : PCfg} (h : c.Right) (key : ByteArray) (i : Nat) : placeP (sumP c.seed key) c.shelves i = (plN c key i : Nat) ∧ ((plN c key i : Nat) : Int) < c.shelves := by
  have := placeP_ok (sumP c.seed key) c.shelves i h.shelves.1
  unfold plN
  omega
theorem pl_cover {c : PCfg} (h : c.Right) (key : ByteArray) (j : Nat) (hj : (j : Int) < c.shelves) : ∃ i : Nat, (i : Int) < c.shelves ∧ plN c key i = j := by
  have hs := h.shelves
  generalize hn : sumP c.seed key = n
  have h1 := Int.emod_nonneg ((j : Int) - n % c.shelves) (b := c.shelves) (by omega)
  have h2 := Int.emod_lt_of_pos ((j : Int) - n % c.shelves) (b := c.shelves) (by omega)
  refine ⟨(((j : Int) - n % c.shelves) % c.shelves).toNat, by omega, ?_⟩
  unfold plN placeP
  rw [hn, show ((((j : Int) - n % c.shelves) % c.shelves).toNat : Int) = ((j : Int) - n % c.shelves) % c.shelves by omega, Int.add_emod_emod, show n % c.shelves + ((j : Int) - n % c.shelves) = (j : Int) by omega, Int.emod_eq_of_lt (by omega) hj]
  omega
theorem right_words (b : Int) : PAct.right ⟨6, b, 0, 0, 0, ByteArray.empty⟩ = true := by simp [PAct.right, PAct.fit]
theorem act_words {S : PHeap} {b : Int} {x : PBlk} (h : S.find b = some x) (r : Nat) : S.act ⟨6, b, 0, 0, 0, ByteArray.empty⟩ r = (⟨0, x.text⟩, S) := by
  simp [PHeap.act, right_words, PHeap.words, h]
theorem ready_words (S : PHeap) (b : Int) : S.ready ⟨6, b, 0, 0, 0, ByteArray.empty⟩ = true := by simp [PHeap.ready, right_words]
/-- What is on a shelf stays. -/
def ExtT (tx tx' : Nat → Option ByteArray) : Prop := ∀ j t, tx j = some t → tx' j = some t
theorem put_ext {tx : Nat → Option ByteArray} {p : Nat} (hp : tx p = none) (t : ByteArray) : ExtT tx (putT tx p t) := fun j t' h => by
  unfold putT
  by_cases hj : j = p
  · subst hj
    rw [hp] at h
    cases h
  · rw [if_neg hj]
    exact h
theorem look_ext {key : ByteArray} {pl : Nat → Nat} {tx tx' : Nat → Option ByteArray} (he : ExtT tx tx') : ∀ (d k : Nat), (lookP key pl tx d k).1 ≠ 2 → lookP key pl tx' d k = lookP key pl tx d k
  | 0, k, h => rfl
  | d + 1, k, h => by
    unfold lookP at h ⊢
    cases htx : tx (pl k) with
    | none => rw [htx] at h; exact absurd rfl h
    | some t =>
      rw [htx] at h
      rw [he _ _ htx]
      by_cases htk : t = key
      · simp only [htk, if_true]
      · simp only [htk, if_false] at h ⊢
        rw [look_ext he d (k + 1) h]
theorem look_put {key : ByteArray} {pl : Nat → Nat} {tx : Nat → Option ByteArray} : ∀ (d k : Nat), (lookP key pl tx d k).1 = 2 → ∃ p : Nat, (lookP key pl tx d k).2.1 = p ∧ tx p = none ∧ (∃ i, p = pl i) ∧ lookP key pl (putT tx p key) d k = (1, (p : Int), (lookP key pl tx d k).2.2 + 1)
  | 0, k, h => by cases h
  | d + 1, k, h => by
    unfold lookP at h ⊢
    cases htx : tx (pl k) with
    | none =>
      refine ⟨pl k, rfl, htx, ⟨k, rfl⟩, ?_⟩
      simp [putT]
    | some t =>
      rw [htx] at h
      by_cases htk : t = key
      · simp only [htk, if_true] at h
        cases h
      · simp only [htk, if_false] at h ⊢
        obtain ⟨p, h1, h2, h3, h4⟩ := look_put d (k + 1) h
        refine ⟨p, h1, h2, h3, ?_⟩
        have hne : pl k ≠ p := fun e => by rw [e, h2] at htx; cases htx
        have e : putT tx p key (pl k) = some t := by unfold putT; rw [if_neg hne, htx]
        rw [e]
        simp only [htk, if_false]
        rw [h4]
theorem look_kind {key : ByteArray} {pl : Nat → Nat} {tx : Nat → Option ByteArray} : ∀ (d k : Nat), ((lookP key pl tx d k).1 = 1 ∧ ∃ p : Nat, (lookP key pl tx d k).2.1 = p ∧ tx p = some key ∧ ∃ i, p = pl i) ∨ (lookP key pl tx d k).1 = 2 ∨ ((lookP key pl tx d k).1 = 3 ∧ (lookP key pl tx d k).2.1 = 0 ∧ ∀ i, i < d → ∃ t, tx (pl (k + i)) = some t)
  | 0, k => .inr (.inr ⟨rfl, rfl, fun i h => by omega⟩)
  | d + 1, k => by
    unfold lookP
    cases htx : tx (pl k) with
    | none => exact .inr (.inl rfl)
    | some t =>
      by_cases htk : t = key
      · simp only [htk, if_true]
        rw [htk] at htx
        exact .inl ⟨trivial, pl k, rfl, htx, k, rfl⟩
      · simp only [htk, if_false]
        rcases look_kind (key := key) (pl := pl) (tx := tx) d (k + 1) with h | h | ⟨h1, h2, h3⟩
        · exact .inl h
        · exact .inr (.inl h)
        · refine .inr (.inr ⟨h1, h2, fun i hi => ?_⟩)
          cases i with
          | zero => exact ⟨t, htx⟩
          | succ i =>
            have := h3 i (by omega)
            rwa [show k + 1 + i = k + (i + 1) by omega] at this
end Go.Proofs.YtmlnhjfdhjachaaGreat

/-
  The examples of the law of finding (layer 23). No condition.
-/
namespace Go.Proofs.YtmlnhjfdhjachaaGreat
set_option linter.unusedVariables false
open Go.ChangeShapes Go.WideShapes Go.ChangeAt Go.RowKit
open Go.ChangeMaps (setBlock)

end Go.Proofs.YtmlnhjfdhjachaaGreat

/-
  Looking for a key's shelf alone; putting a key on it (layer 23). No condition.
-/
namespace Go.Proofs.YtmlnhjfdhjachaaGreat
set_option linter.unusedVariables false
open Go.ChangeShapes Go.WideShapes Go.ChangeAt Go.RowKit
open Go.ChangeMaps (setBlock)

/-- What looking alone leaves. -/
structure Looked (w0 w : World) (hb : Nat) (S : PHeap) (F : Nat → Prop) (b : Nat) (L : Int × Int × Nat) (s : PFind) (F' : Nat → Prop) (w' : World) : Prop where
  own : Own w0 hb S F' w'
  lies : FindIn w' b s
  res : s.result = ((L.1, L.2.1), true)
  off : ¬ F' b
  sub : ∀ k, F' k → F k ∨ k = b ∨ w.heap.size ≤ k
  chg : Chg (fun k => F k ∨ k = b) w w'
/-- What is asked of the places behind a look: they are as they were. -/
theorem Looked.keep {w0 w w' : World} {hb : Nat} {S : PHeap} {F F' : Nat → Prop} {b : Nat} {L : Int × Int × Nat} {s : PFind} (h : Looked w0 w hb S F b L s F' w') {k : Nat} (hk : k < w.heap.size) (hF : ¬ F k) (hb' : k ≠ b) : w'.heap[k]? = w.heap[k]? ∧ ¬ F' k :=
  ⟨h.chg.block k hk (fun h => h.elim hF hb'), fun h1 => by rcases h.sub k h1 with h2 | h2 | h2 <;> first | exact hF h2 | exact hb' h2 | omega⟩
/-- A heap of the call's own, and some blocks that it leaves alone. -/
structure OwnK (w0 : World) (hb : Nat) (S : PHeap) (F : Nat → Prop) (K : List (Nat × Obj)) (w : World) : Prop where
  own : Own w0 hb S F w
  keep : ∀ x ∈ K, w.heap[x.1]? = some x.2 ∧ ¬ F x.1
theorem OwnK.lt {w0 w : World} {hb : Nat} {S : PHeap} {F : Nat → Prop} {K : List (Nat × Obj)} (h : OwnK w0 hb S F K w) {x : Nat × Obj} (hx : x ∈ K) : x.1 < w.heap.size := (Array.getElem?_eq_some_iff.1 (h.keep x hx).1).1
theorem OwnK.below {w0 w w' : World} {hb : Nat} {S : PHeap} {F : Nat → Prop} {K : List (Nat × Obj)} (h : OwnK w0 hb S F K w) (hb' : Below w.heap.size w w') : OwnK w0 hb S F K w' :=
  ⟨h.own.keep hb', fun x hx => ⟨(hb'.block _ (h.lt hx)).trans (h.keep x hx).1, (h.keep x hx).2⟩⟩
theorem OwnK.turned {w0 w w' : World} {hb : Nat} {S S' : PHeap} {F : Nat → Prop} {K : List (Nat × Obj)} (h : OwnK w0 hb S F K w) (t : Turned F hb S' w w') : OwnK w0 hb S' (nw F w w') K w' :=
  ⟨h.own.turned t, fun x hx => ⟨(t.2.block _ (h.lt hx) (h.keep x hx).2).trans (h.keep x hx).1, fun hn => by
    rcases hn with hn | hn
    · exact (h.keep x hx).2 hn
    · have := h.lt hx; omega⟩⟩
theorem OwnK.looked {w0 w w' : World} {hb b : Nat} {S : PHeap} {F F' : Nat → Prop} {K : List (Nat × Obj)} {L : Int × Int × Nat} {s : PFind} (h : OwnK w0 hb S F K w) (hl : Looked w0 w hb S F b L s F' w') (hK : ∀ x ∈ K, x.1 ≠ b) : OwnK w0 hb S F' K w' :=
  ⟨hl.own, fun x hx => by
    have := hl.keep (h.lt hx) (h.keep x hx).2 (hK x hx)
    exact ⟨this.1.trans (h.keep x hx).1, this.2⟩⟩
/-- One block more that it leaves alone. -/
theorem OwnK.add {w0 w : World} {hb : Nat} {S : PHeap} {F : Nat → Prop} {K : List (Nat × Obj)} (h : OwnK w0 hb S F K w) (o : Obj) : OwnK w0 hb S F ((w.heap.size, o) :: K) (w.alloc o) := by
  have h1 := h.below (Below.more_ (Below.refl _ _) o)
  refine ⟨h1.own, fun x hx => ?_⟩
  rcases List.mem_cons.1 hx with rfl | hx
  · refine ⟨heap_alloc_new w o, fun hF => ?_⟩
    have := h.own.heap.own _ hF
    omega
  · exact h1.keep x hx
/-- One block less. -/
theorem OwnK.less {w0 w : World} {hb : Nat} {S : PHeap} {F : Nat → Prop} {K : List (Nat × Obj)} {x : Nat × Obj} (h : OwnK w0 hb S F (x :: K) w) : OwnK w0 hb S F K w := ⟨h.own, fun y hy => h.keep y (List.mem_cons_of_mem _ hy)⟩
theorem OwnK.drewN {w0 w : World} {hb : Nat} {S : PHeap} {F : Nat → Prop} {K : List (Nat × Obj)} (h : OwnK w0 hb S F K w) (n : Nat) : OwnK w0 hb S F K (w.drewN n) := h.below (below_drewN (Below.refl _ _) n)
theorem OwnK.drew {w0 w : World} {hb : Nat} {S : PHeap} {F : Nat → Prop} {K : List (Nat × Obj)} (h : OwnK w0 hb S F K w) : OwnK w0 hb S F K w.drew := h.below (Below.refl _ _).drew
theorem OwnK.blk {w0 w : World} {hb : Nat} {S : PHeap} {F : Nat → Prop} {K : List (Nat × Obj)} (h : OwnK w0 hb S F K w) {b : Nat} {t : TypeId} {cs : Array Value} (hx : (b, Obj.cells cs t) ∈ K) : Blk w b t cs := (h.keep _ hx).1
end Go.Proofs.YtmlnhjfdhjachaaGreat

/-
  The routine that reads a key (layer 26): what it is. No condition.
-/
namespace Go.Proofs.YtmlnhjfdhjachaaGreat
set_option linter.unusedVariables false
open Go.ChangeShapes Go.WideShapes Go.ChangeAt Go.RowKit
open Go.ChangeMaps (setBlock)

structure PRead where
  cfg : PCfg
  key : ByteArray
  part : Int
  acts : Int
  pin : PPin
  pp : Int
  pe : Int
  pt : Bool
  find : PFind
  chain : PChain
  code : Int
  took : Bool
  value : ByteArray
  mark : Int
def PRead.cells (s : PRead) (pv fv cv : Value) : Array Value := #[.int .i64 s.cfg.cap, .int .i64 s.cfg.pins, .int .i64 s.cfg.shelves, .int .i64 s.cfg.queue, .int .i64 s.cfg.watchers, .int .u64 s.cfg.seed, .string s.key, .int .i64 s.part, .int .i64 s.acts, pv, .int .i64 s.pp, .int .u64 s.pe, .bool s.pt, fv, cv, .int .i64 s.code, .int .i64 0, .int .i64 0, .bool s.took, .string s.value, .slice none 0 0, .int .i64 0, .slice none 0 0, .int .i64 s.mark, .int .u64 0]
/-- Behind pinning. -/
def PRead.settle1 (s : PRead) : PRead :=
  if s.pin.part = 5 then
    (if s.pin.taken then { s with code := 11, part := 5 } else { s with pp := s.pin.pin, pe := s.pin.epoch, pt := s.pin.taken, mark := s.acts, part := 2, find := newFind s.cfg s.key })
  else s
/-- Behind looking for the key. -/
def PRead.settle2 (s : PRead) : PRead :=
  if s.find.kind = 0 then s
  else if s.find.kind = 1 then { s with part := 3, chain := newChain (3 + s.cfg.pins + s.cfg.cap + 2 * s.find.shelf + 1) s.pe }
  else { s with part := 4 }
/-- Behind the chain. -/
def PRead.settle3 (s : PRead) : PRead := if s.chain.part = 6 then { s with code := 0, took := s.chain.has, value := s.chain.text, part := 4 } else s
/-- What it does next. -/
def PRead.act (s : PRead) : PAct × Bool :=
  if s.part = 1 then s.pin.act
  else if s.part = 2 then s.find.act
  else if s.part = 3 then s.chain.act
  else if s.part = 4 then (⟨2, 1, 3 + s.pp, 0, 0, ByteArray.empty⟩, true)
  else (noAct, false)
/-- What it takes. -/
def PRead.take (s : PRead) (g : PGot) : PRead :=
  if s.part = 1 then PRead.settle1 { s with acts := IntKind.i64.wrap (s.acts + 1), pin := s.pin.take g }
  else if s.part = 2 then PRead.settle2 { s with acts := IntKind.i64.wrap (s.acts + 1), find := s.find.take g }
  else if s.part = 3 then PRead.settle3 { s with acts := IntKind.i64.wrap (s.acts + 1), chain := s.chain.take g }
  else if s.part = 4 then { s with acts := IntKind.i64.wrap (s.acts + 1), part := 5 }
  else s
def PRead.done (s : PRead) : Bool := decide (s.part = 5)
end Go.Proofs.YtmlnhjfdhjachaaGreat

/-
  The routine that reads a key (layer 26): its next act, part by part. No condition.
-/
namespace Go.Proofs.YtmlnhjfdhjachaaGreat
set_option linter.unusedVariables false
open Go.ChangeShapes Go.WideShapes Go.ChangeAt Go.RowKit
open Go.ChangeMaps (setBlock)

end Go.Proofs.YtmlnhjfdhjachaaGreat

/-
  What reading does behind pinning and behind looking for the key (layer 26). No condition.
-/
namespace Go.Proofs.YtmlnhjfdhjachaaGreat
set_option linter.unusedVariables false
open Go.ChangeShapes Go.WideShapes Go.ChangeAt Go.RowKit
open Go.ChangeMaps (setBlock)

end Go.Proofs.YtmlnhjfdhjachaaGreat

/-
  What reading does behind each answer (layer 26): settle. No condition.
-/
namespace Go.Proofs.YtmlnhjfdhjachaaGreat
set_option linter.unusedVariables false
open Go.ChangeShapes Go.WideShapes Go.ChangeAt Go.RowKit
open Go.ChangeMaps (setBlock)

end Go.Proofs.YtmlnhjfdhjachaaGreat

/-
  What reading takes (layer 26), part by part. No condition.
-/
namespace Go.Proofs.YtmlnhjfdhjachaaGreat
set_option linter.unusedVariables false
open Go.ChangeShapes Go.WideShapes Go.ChangeAt Go.RowKit
open Go.ChangeMaps (setBlock)

end Go.Proofs.YtmlnhjfdhjachaaGreat

/-
  Reading's answer; how it is made; the bound (layer 26). No condition.
-/
namespace Go.Proofs.YtmlnhjfdhjachaaGreat
set_option linter.unusedVariables false
open Go.ChangeShapes Go.WideShapes Go.ChangeAt Go.RowKit
open Go.ChangeMaps (setBlock)

end Go.Proofs.YtmlnhjfdhjachaaGreat

/-
  Reading a key (layer 26), as a routine. No condition.
-/
namespace Go.Proofs.YtmlnhjfdhjachaaGreat
set_option linter.unusedVariables false
open Go.ChangeShapes Go.WideShapes Go.ChangeAt Go.RowKit
open Go.ChangeMaps (setBlock)

/-- What holds of one that goes. -/
structure PRead.Inv (s : PRead) : Prop where
  part : 1 ≤ s.part ∧ s.part ≤ 5
  right : s.cfg.Right
  key : s.key.size ≤ 9223372036854775807
  pp : 2 ≤ s.part → s.part ≤ 4 → 0 ≤ s.pp ∧ s.pp < s.cfg.pins
  pe : 0 ≤ s.pe ∧ s.pe ≤ 18446744073709551615
/-- A part that goes lies at a block of its own. -/
def ReadSub (w : World) (Q : Nat → Prop) (b : Nat) (s : PRead) (pv fv cv : Value) : Prop :=
  (s.part = 1 → ∃ rb, pv = .pointer (some ⟨rb, 0, none⟩) ∧ Q rb ∧ rb ≠ b ∧ PinOk s.cfg w rb s.pin ∧ s.pin.part ≠ 5) ∧
  (s.part = 2 → ∃ rb, fv = .pointer (some ⟨rb, 0, none⟩) ∧ Q rb ∧ rb ≠ b ∧ FindIn w rb s.find ∧ s.find.made = true ∧ s.find.kind = 0 ∧ s.find.cfg = s.cfg) ∧
  (s.part = 3 → ∃ rb, cv = .pointer (some ⟨rb, 0, none⟩) ∧ Q rb ∧ rb ≠ b ∧ ChainIn w rb s.chain ∧ 1 ≤ s.chain.part ∧ s.chain.part ≠ 6)
def ReadIn (w : World) (Q : Nat → Prop) (b : Nat) (s : PRead) : Prop :=
  ∃ pv fv cv, Blk w b 128 (s.cells pv fv cv) ∧ (s.part = 0 ∨ (s.Inv ∧ ReadSub w Q b s pv fv cv))
theorem ReadSub.keep {w w' : World} {Q : Nat → Prop} {b : Nat} {s : PRead} {pv fv cv : Value} (h : ReadSub w Q b s pv fv cv) (hk : ∀ k, Q k → w'.heap[k]? = w.heap[k]?) : ReadSub w' Q b s pv fv cv :=
  ⟨fun e => by obtain ⟨rb, h1, h2, h3, h4, h5⟩ := h.1 e; exact ⟨rb, h1, h2, h3, h4.keep (hk _ h2), h5⟩,
   fun e => by obtain ⟨rb, h1, h2, h3, h4, h5⟩ := h.2.1 e; exact ⟨rb, h1, h2, h3, h4.keep (hk _ h2), h5⟩,
   fun e => by obtain ⟨rb, h1, h2, h3, h4, h5⟩ := h.2.2 e; exact ⟨rb, h1, h2, h3, h4.keep (hk _ h2), h5⟩⟩
theorem ReadSub.wide {w : World} {Q Q' : Nat → Prop} {b : Nat} {s : PRead} {pv fv cv : Value} (h : ReadSub w Q b s pv fv cv) (hk : ∀ k, Q k → Q' k) : ReadSub w Q' b s pv fv cv :=
  ⟨fun e => by obtain ⟨rb, h1, h2, h3⟩ := h.1 e; exact ⟨rb, h1, hk _ h2, h3⟩,
   fun e => by obtain ⟨rb, h1, h2, h3⟩ := h.2.1 e; exact ⟨rb, h1, hk _ h2, h3⟩,
   fun e => by obtain ⟨rb, h1, h2, h3⟩ := h.2.2 e; exact ⟨rb, h1, hk _ h2, h3⟩⟩
theorem ReadIn.keep {w w' : World} {Q : Nat → Prop} {b : Nat} {s : PRead} (h : ReadIn w Q b s) (hb : Q b) (hk : ∀ k, Q k → w'.heap[k]? = w.heap[k]?) : ReadIn w' Q b s := by
  obtain ⟨pv, fv, cv, h1, h2⟩ := h
  exact ⟨pv, fv, cv, h1.keep (hk _ hb), h2.imp id fun ⟨h3, h4⟩ => ⟨h3, h4.keep hk⟩⟩
theorem ReadIn.wide {w : World} {Q Q' : Nat → Prop} {b : Nat} {s : PRead} (h : ReadIn w Q b s) (hk : ∀ k, Q k → Q' k) : ReadIn w Q' b s := by
  obtain ⟨pv, fv, cv, h1, h2⟩ := h
  exact ⟨pv, fv, cv, h1, h2.imp id fun ⟨h3, h4⟩ => ⟨h3, h4.wide hk⟩⟩
theorem settle_pin {c : PCfg} {w : World} {rb : Nat} {r : PPin} (h : PinOk c w rb r) : ∀ W : World, Below w.heap.size w W → Calls Tryz.prog 81 #[.pointer (some ⟨rb, 0, none⟩)] W fun e w' => e = .returned (.tuple #[.agg #[.int .i64 r.result.1.1, .int .u64 r.result.1.2.1, .bool r.result.1.2.2], .bool r.result.2]) ∧ Below W.heap.size W w' :=
  fun W hb => pinResult_any (h.lies.below hb)
theorem settle_find {w : World} {rb : Nat} {r : PFind} (h : FindIn w rb r) : ∀ W : World, Below w.heap.size w W → Calls Tryz.prog 61 #[.pointer (some ⟨rb, 0, none⟩)] W fun e w' => e = .returned (.tuple #[.agg #[.int .i64 r.result.1.1, .int .i64 r.result.1.2], .bool r.result.2]) ∧ Below W.heap.size W w' :=
  fun W hb => findResult_any (h.below hb)
theorem settle_chain {w : World} {rb : Nat} {r : PChain} (h : ChainIn w rb r) : ∀ W : World, Below w.heap.size w W → Calls Tryz.prog 84 #[.pointer (some ⟨rb, 0, none⟩)] W fun e w' => e = .returned (.tuple #[.agg #[.bool r.result.1.1, .string r.result.1.2.1, .int .u64 r.result.1.2.2], .bool r.result.2]) ∧ Below W.heap.size W w' :=
  fun W hb => chainResult_any (h.below hb)
end Go.Proofs.YtmlnhjfdhjachaaGreat

/-
  What reading a key (layer 26) takes; the routine as a whole. No condition.
-/
namespace Go.Proofs.YtmlnhjfdhjachaaGreat
set_option linter.unusedVariables false
open Go.ChangeShapes Go.WideShapes Go.ChangeAt Go.RowKit
open Go.ChangeMaps (setBlock)

theorem rpinTake_ok {c : PCfg} {w : World} {b : Nat} {s : PPin} (h : PinOk c w b s) (g : PGot) (hg : g.Ok) : Calls Tryz.prog 49 #[.pointer (some ⟨b, 0, none⟩), g.val] w fun e w' => e = .returned (.tuple #[]) ∧ PinOk c w' b (s.take g) ∧ Chg (fun k => k = b) w w' :=
  (pinTake_any h.lies (fun e => by rw [h.inv.cfg]; exact h.inv.two (.inl e)) g hg).mono fun e w' ⟨he, hv, hc⟩ => ⟨he, ⟨hv, h.inv.take g⟩, hc⟩
theorem pin_take_pin {c : PCfg} {s : PPin} (h : PinInv c s) (hp : s.part ≠ 5) (g : PGot) (h5 : (s.take g).part = 5) (ht : (s.take g).taken = false) : 0 ≤ (s.take g).pin ∧ (s.take g).pin < c.pins := by
  have hat := h.at_ok
  have hpt := h.part
  unfold PPin.take at *
  by_cases p1 : s.part = 1
  · rw [if_pos p1] at h5; cases h5
  rw [if_neg p1] at h5 ht ⊢
  by_cases p2 : s.part = 2
  · rw [if_pos p2] at h5 ht ⊢
    by_cases hg : g.word = 0
    · rw [if_pos hg] at h5; cases h5
    rw [if_neg hg] at h5 ht ⊢
    by_cases hx : s.tried + 1 = s.cfg.pins
    · rw [if_pos hx] at ht; cases ht
    rw [if_neg hx] at h5
    exact absurd h5 hp
  rw [if_neg p2] at h5 ht ⊢
  by_cases p4 : s.part = 4
  · rw [if_pos p4] at h5; cases h5
  rw [if_neg p4] at h5 ht ⊢
  by_cases p3 : s.part = 3
  · rw [if_pos p3] at h5 ht ⊢
    by_cases hg : g.word = s.epoch
    · rw [if_pos hg]
      exact ⟨hat.1, hat.2.1⟩
    rw [if_neg hg] at h5; cases h5
  rw [if_neg p3] at h5
  exact absurd h5 hp
theorem chain_take_part {s : PChain} (h : 1 ≤ s.part) (g : PGot) : 1 ≤ (s.take g).part := by
  have hd : ∀ (t : PChain) (x : Int), 1 ≤ (t.down x).part := fun t x => by
    unfold PChain.down PChain.done_
    split <;> simp
  unfold PChain.take PChain.done_
  split
  · exact hd _ _
  · split
    · split <;> simp
    · split
      · exact hd _ _
      · split
        · split <;> simp
        · split
          · simp
          · exact h
section
variable {w : World} {Q : Nat → Prop} {b : Nat} {c : PCfg} {key : ByteArray} {acts pp pe code mark : Int} {pin : PPin} {find : PFind} {chain : PChain} {pt took : Bool} {value : ByteArray} {pv fv cv : Value} {rb : Nat} {gw : Int} {gt : ByteArray}
theorem chg_two {w w' : World} (h : Chg (fun k => k = rb ∨ k = b) w w') (h1 : Q rb) (h2 : Q b) : Chg Q w w' := h.mono fun i hi => by rcases hi with hi | hi <;> rw [hi] <;> assumption
end
end Go.Proofs.YtmlnhjfdhjachaaGreat

/-
  What reading a key (layer 26) takes behind pinning; the routine as a whole. No condition.
-/
namespace Go.Proofs.YtmlnhjfdhjachaaGreat
set_option linter.unusedVariables false
open Go.ChangeShapes Go.WideShapes Go.ChangeAt Go.RowKit
open Go.ChangeMaps (setBlock)

section
variable {w : World} {Q : Nat → Prop} {b : Nat} {c : PCfg} {key : ByteArray} {acts pp pe code mark : Int} {pin : PPin} {find : PFind} {chain : PChain} {pt took : Bool} {value : ByteArray} {pv fv cv : Value} {rb : Nat} {gw : Int} {gt : ByteArray}
end
end Go.Proofs.YtmlnhjfdhjachaaGreat

/-
  The document's going down a chain on a tape, from some place on (layer 24). No condition.
-/
namespace Go.Proofs.YtmlnhjfdhjachaaGreat
set_option linter.unusedVariables false
open Go.ChangeShapes Go.WideShapes Go.ChangeAt Go.RowKit
open Go.ChangeMaps (setBlock)

end Go.Proofs.YtmlnhjfdhjachaaGreat

/-
  The document's reading on a tape (layer 26): the plain law of how it goes beside the routine; what stands still where the tape is over. No condition.
-/
namespace Go.Proofs.YtmlnhjfdhjachaaGreat
set_option linter.unusedVariables false
open Go.ChangeShapes Go.WideShapes Go.ChangeAt Go.RowKit
open Go.ChangeMaps (setBlock)

theorem wrap_succ (k : Nat) : IntKind.i64.wrap (IntKind.i64.wrap (k : Int) + 1) = IntKind.i64.wrap ((k + 1 : Nat) : Int) := by
  simp only [IntKind.wrap_i64]
  omega
theorem wrap_small (k : Nat) (h : k ≤ 1000000) : IntKind.i64.wrap (k : Int) = k := IntWalk.i64_in _ (by omega)
theorem pin_go {s : PPin} (h : s.act.2 = true) : s.part ≠ 5 := fun e => by rw [PPin.act5 e] at h; cases h
theorem chain_go {s : PChain} (h : s.act.2 = true) : s.part ≠ 6 := fun e => by simp [PChain.act, e] at h
/-- What holds of pinning, whatever is answered. -/
structure PinGood (c : PCfg) (s : PPin) : Prop where
  inv : PinInv c s
  ep : 0 ≤ s.epoch ∧ s.epoch ≤ 18446744073709551615
  pin : s.part = 5 → s.taken = false → 0 ≤ s.pin ∧ s.pin < c.pins
theorem PinGood.take {c : PCfg} {s : PPin} (h : PinGood c s) (g : PGot) (hg : g.Ok) : PinGood c (s.take g) := by
  refine ⟨h.inv.take g, ?_, fun h5 ht => ?_⟩
  · have h1 := h.ep
    have h2 : 0 ≤ g.word ∧ g.word ≤ 18446744073709551615 := hg
    unfold PPin.take
    repeat' split
    all_goals first | exact h1 | exact h2 | (show (0 : Int) ≤ 0 ∧ (0 : Int) ≤ 18446744073709551615; decide)
  · by_cases hp : s.part = 5
    · rw [PPin.take5 hp] at h5 ht ⊢
      exact h.pin h5 ht
    · exact pin_take_pin h.inv hp g h5 ht
theorem PRead.act5 {s : PRead} (h : s.part = 5) : s.act = (noAct, false) := by simp [PRead.act, h]
theorem PRead.take5 {s : PRead} (h : s.part = 5) (g : PGot) : s.take g = s := by simp [PRead.take, h]
end Go.Proofs.YtmlnhjfdhjachaaGreat

/-
  The routine that hands an operation in (layer 29): what each of its functions does; as a routine. No condition.
-/
namespace Go.Proofs.YtmlnhjfdhjachaaGreat
set_option linter.unusedVariables false
open Go.ChangeShapes Go.WideShapes Go.ChangeAt Go.RowKit
open Go.ChangeMaps (setBlock)

structure PHand where
  cfg : PCfg
  text : ByteArray
  part : Int
  res : PRes
  full : Bool
  ticket : Int
  record : Int
def PHand.cells (s : PHand) (pv : Value) : Array Value := #[.int .i64 s.cfg.cap, .int .i64 s.cfg.pins, .int .i64 s.cfg.shelves, .int .i64 s.cfg.queue, .int .i64 s.cfg.watchers, .int .u64 s.cfg.seed, .string s.text, .int .i64 s.part, pv, .bool s.full, .int .i64 s.ticket, .int .u64 s.record]
def PHand.settle (s : PHand) : PHand := if s.res.over then (if s.res.full then { s with full := true, part := 4 } else { s with ticket := s.res.ticket, part := 3 }) else s
/-- What it does next. -/
def PHand.act (s : PHand) : PAct × Bool :=
  if s.part = 1 then (⟨5, 0, 2, 0, 0, s.text⟩, true)
  else if s.part = 2 then s.res.act
  else if s.part = 3 then (⟨2, 1, ringAt s.cfg s.ticket, 0, s.record, ByteArray.empty⟩, true)
  else (noAct, false)
/-- What it takes. -/
def PHand.take (s : PHand) (g : PGot) : PHand :=
  if s.part = 1 then { s with record := g.word, part := 2 }
  else if s.part = 2 then PHand.settle { s with res := s.res.take g }
  else if s.part = 3 then { s with part := 4 }
  else s
def PHand.result (s : PHand) : (Bool × Int × Int) × Bool := if s.part = 4 then ((s.full, s.ticket, s.record), true) else ((false, 0, 0), false)
/-- What holds of one that goes. -/
structure PHand.Inv (s : PHand) : Prop where
  part : 1 ≤ s.part ∧ s.part ≤ 4
  right : s.cfg.Right
  rcfg : s.res.cfg = s.cfg ∧ s.res.made = true
  ahead : s.part = 1 → s.res = newRes s.cfg ∧ s.full = false ∧ s.ticket = 0
  goes : s.part = 2 → s.res.over = false ∧ s.full = false ∧ s.ticket = 0
theorem res_ticket {s : PRes} (h : s.over = false) (g : PGot) (h2 : (s.take g).over = true) : 0 ≤ (s.take g).ticket ∧ (s.take g).ticket ≤ 1099511627775 := by
  have hlook : ∀ (t : PRes) (x : Int), t.over = false → (t.look x).over = true → (t.look x).ticket = 0 := fun t x h3 h4 => by
    unfold PRes.look at h4 ⊢
    split at h4
    · simp [h3] at h4
    · rename_i hc
      rw [if_neg hc]
  unfold PRes.take at h2 ⊢
  split
  · rename_i hc
    rw [if_pos hc, h] at h2
    cases h2
  · rename_i hc
    rw [if_neg hc] at h2
    split
    · rename_i hd
      rw [if_pos hd] at h2
      rw [hlook _ _ h h2]
      omega
    · rename_i hd
      rw [if_neg hd] at h2
      split
      · exact cameOf_le _
      · rename_i he
        rw [if_neg he] at h2
        have h5 := hlook { s with tries := IntKind.i64.wrap (s.tries + 1) } g.word h h2
        rw [h5]
        omega
/-- What it takes keeps what holds. -/
theorem PHand.Inv.take {s : PHand} (h : s.Inv) (g : PGot) : (s.take g).Inv ∧ ((0 ≤ s.ticket ∧ s.ticket ≤ 9223372036854775807) → 0 ≤ (s.take g).ticket ∧ (s.take g).ticket ≤ 9223372036854775807) ∧ (s.take g).text = s.text := by
  obtain ⟨⟨p1, p4⟩, hr, hc, ha, hg⟩ := h
  have hcase : s.part = 1 ∨ s.part = 2 ∨ s.part = 3 ∨ s.part = 4 := by omega
  unfold PHand.take
  rcases hcase with e | e | e | e
  · rw [if_pos e]
    have h1 := ha e
    refine ⟨⟨by simp, hr, hc, fun e2 => by simp at e2, fun _ => ⟨?_, h1.2.1, h1.2.2⟩⟩, fun h2 => h2, rfl⟩
    show s.res.over = false
    rw [h1.1]
    rfl
  · rw [if_neg (by omega), if_pos e]
    have h1 := hg e
    have hk := PRes.take_cfg s.res g
    have ht := res_ticket h1.1 g
    show (PHand.settle _).Inv ∧ _
    unfold PHand.settle
    simp only
    split
    · rename_i hov
      split
      · exact ⟨⟨by simp, hr, ⟨hk.1.trans hc.1, hk.2.trans hc.2⟩, fun e2 => by simp at e2, fun e2 => by simp at e2⟩, fun h2 => h2, rfl⟩
      · refine ⟨⟨by simp, hr, ⟨hk.1.trans hc.1, hk.2.trans hc.2⟩, fun e2 => by simp at e2, fun e2 => by simp at e2⟩, fun h2 => ?_, rfl⟩
        have := ht hov
        show 0 ≤ (s.res.take g).ticket ∧ (s.res.take g).ticket ≤ _
        omega
    · rename_i hov
      exact ⟨⟨by simp [e], hr, ⟨hk.1.trans hc.1, hk.2.trans hc.2⟩, fun e2 => by simp [e] at e2, fun _ => ⟨by simpa using hov, h1.2⟩⟩, fun h2 => h2, rfl⟩
  · rw [if_neg (by omega), if_neg (by omega), if_pos e]
    exact ⟨⟨by simp, hr, hc, fun e2 => by simp at e2, fun e2 => by simp at e2⟩, fun h2 => h2, rfl⟩
  · rw [if_neg (by omega), if_neg (by omega), if_neg (by omega)]
    exact ⟨⟨⟨p1, p4⟩, hr, hc, ha, hg⟩, fun h2 => h2, rfl⟩
end Go.Proofs.YtmlnhjfdhjachaaGreat

/-
  The routine that hands an operation in (layer 29): its next act, of the last part. No condition.
-/
namespace Go.Proofs.YtmlnhjfdhjachaaGreat
set_option linter.unusedVariables false
open Go.ChangeShapes Go.WideShapes Go.ChangeAt Go.RowKit
open Go.ChangeMaps (setBlock)

end Go.Proofs.YtmlnhjfdhjachaaGreat

/-
  The routine that hands an operation in (layer 29): its next act. No condition.
-/
namespace Go.Proofs.YtmlnhjfdhjachaaGreat
set_option linter.unusedVariables false
open Go.ChangeShapes Go.WideShapes Go.ChangeAt Go.RowKit
open Go.ChangeMaps (setBlock)

end Go.Proofs.YtmlnhjfdhjachaaGreat

/-
  Handing in alone (layer 29): the plain law. No condition.
-/
namespace Go.Proofs.YtmlnhjfdhjachaaGreat
set_option linter.unusedVariables false
open Go.ChangeShapes Go.WideShapes Go.ChangeAt Go.RowKit
open Go.ChangeMaps (setBlock)

/-- One step of a run. -/
theorem run_one {σ : Type} {Rt : Rout σ} {S S' : PHeap} {s s' : σ} {xs : List (PAct × PGot)} {m : Int} {x : PAct} (ha : Rt.act s = (x, true)) (hr : S.ready x = true) (h : Runs Rt S s xs S' s') (hst : m ≤ (xs.length : Nat) ∨ Rt.can S' s' = false) (hm : 1 ≤ m) :
    ∃ r l, xs = (x, (S.act x r).1) :: l ∧ Runs Rt (S.act x r).2 (Rt.take s (S.act x r).1) l S' s' ∧ (m - 1 ≤ (l.length : Nat) ∨ Rt.can S' s' = false) := by
  match xs, h with
  | [], h =>
    obtain ⟨rfl, rfl⟩ := h
    rcases hst with h1 | h1
    · simp at h1; omega
    · unfold Rout.can at h1
      rw [ha, hr] at h1
      cases h1
  | y :: l, h =>
    obtain ⟨_, r, hy, h⟩ := h
    rw [ha] at hy h
    exact ⟨r, l, by rw [hy], h, hst.imp (fun e => by simp at e; omega) id⟩
/-- A run from where nothing more is done. -/
theorem run_end {σ : Type} {Rt : Rout σ} {S S' : PHeap} {s s' : σ} {xs : List (PAct × PGot)} (ha : (Rt.act s).2 = false) (h : Runs Rt S s xs S' s') : xs = [] ∧ S' = S ∧ s' = s := by
  match xs, h with
  | [], h => exact ⟨rfl, h.1.symm, h.2.symm⟩
  | y :: l, h =>
    have h1 := h.1
    unfold Rout.can at h1
    rw [ha] at h1
    cases h1
end Go.Proofs.YtmlnhjfdhjachaaGreat

/-
  Pinning alone (layer 25): the plain law. No condition.
-/
namespace Go.Proofs.YtmlnhjfdhjachaaGreat
set_option linter.unusedVariables false
open Go.ChangeShapes Go.WideShapes Go.ChangeAt Go.RowKit
open Go.ChangeMaps (setBlock)

/-- The pins' cells hold what a row says. -/
def PinsAt (S : PHeap) (x : Nat → Int) (n : Int) : Prop := ∀ j : Nat, (j : Int) < n → CtlAt S (3 + j) (x j)
def PinGot (c : PCfg) (S : PHeap) (x : Nat → Int) (e : Int) (first t : Int) (S' : PHeap) (s' : PPin) (n : Nat) : Prop :=
  ∃ (j : Nat) (i : Int), (t ≤ i ∧ i < c.pins ∧ (first + i) % c.pins = j ∧ ∀ i', t ≤ i' → i' < i → x ((first + i') % c.pins).toNat ≠ 0) ∧ (j : Int) < c.pins ∧ x j = 0 ∧ s'.part = 5 ∧ s'.taken = false ∧ s'.pin = j ∧ s'.epoch = e ∧ S' = S.set 1 (3 + j) (IntKind.u64.wrap (e + 1)) ∧ (n : Int) = i - t + 2
def PinNone (c : PCfg) (S : PHeap) (x : Nat → Int) (first t : Int) (S' : PHeap) (s' : PPin) (n : Nat) : Prop :=
  (∀ i, t ≤ i → i < c.pins → x ((first + i) % c.pins).toNat ≠ 0) ∧ s'.part = 5 ∧ s'.taken = true ∧ S' = S ∧ (n : Int) = c.pins - t
theorem runs_stop {c : PCfg} {S S' : PHeap} {s s' : PPin} {xs : List (PAct × PGot)} (hi : PinInv c s) (hp : s.part = 5) (h : Runs (pinRout c) S s xs S' s') : xs = [] ∧ S' = S ∧ s' = s := by
  match xs, h with
  | [], h => exact ⟨rfl, h.1.symm, h.2.symm⟩
  | y :: l, h =>
    obtain ⟨h1, _⟩ := h
    rw [can_pin hi, hp] at h1
    cases h1
theorem pin_tries {c : PCfg} {S : PHeap} {x : Nat → Int} {e : Int} (he : CtlAt S 0 e) (hx : PinsAt S x c.pins) : ∀ (d : Nat) (s : PPin) {S' : PHeap} {s' : PPin} {xs : List (PAct × PGot)} {m : Int}, PinInv c s → s.part = 2 → s.taken = false → s.epoch = e → (d : Int) = c.pins - s.tried →
    Runs (pinRout c) S s xs S' s' → (m ≤ (xs.length : Nat) ∨ (pinRout c).can S' s' = false) → (d : Int) + 2 ≤ m → PinGot c S x e s.first s.tried S' s' xs.length ∨ PinNone c S x s.first s.tried S' s' xs.length
  | 0, s, S', s', xs, m, hi, hp, htk, hep, hd, h, hst, hm => by have := hi.two (.inl hp); omega
  | d + 1, s, S', s', xs, m, hi, hp, htk, hep, hd, h, hst, hm => by
    have hat := hi.at_ok
    obtain ⟨k, hk⟩ : ∃ k : Nat, s.at_ = k := ⟨s.at_.toNat, by omega⟩
    have hat2 : (s.first + s.tried) % c.pins = k := by rw [← hk, ← hi.cfg]; rfl
    have ha := PPin.act2 hp k hk
    have hC := hx k (by omega)
    match xs, h with
    | [], h =>
      obtain ⟨rfl, rfl⟩ := h
      rcases hst with h1 | h1
      · simp at h1; omega
      · rw [can_pin hi, hp] at h1; cases h1
    | y :: l, h =>
      obtain ⟨_, r, _, h⟩ := h
      have hsw : S.act ((pinRout c).act s).1 r = (⟨x k, ByteArray.empty⟩, if x k = 0 then S.set 1 (3 + k) (IntKind.u64.wrap (s.epoch + 1)) else S) := by
        show S.act (PPin.act s).1 r = _
        rw [ha]
        exact hC.swap 0 _ r
      rw [hsw] at h
      have hi2 := hi.take ⟨x k, ByteArray.empty⟩
      by_cases hx0 : x k = 0
      · rw [if_pos hx0] at h
        have hT : (pinRout c).take s ⟨x k, ByteArray.empty⟩ = { s with part := 3 } := PPin.take2a hp _ hx0
        rw [hT] at h
        rw [show s.take ⟨x k, ByteArray.empty⟩ = { s with part := 3 } from hT] at hi2
        have he2 : CtlAt (S.set 1 (3 + k) (IntKind.u64.wrap (s.epoch + 1))) 0 e := he.other _ (by omega)
        have ha3 : PPin.act { s with part := 3 } = (⟨1, 1, ((0 : Nat) : Int), 0, 0, ByteArray.empty⟩, true) := PPin.act1 (.inr rfl)
        match l, h with
        | [], h =>
          obtain ⟨rfl, rfl⟩ := h
          rcases hst with h1 | h1
          · simp at h1; omega
          · rw [can_pin hi2] at h1; cases h1
        | z :: l, h =>
          obtain ⟨_, r2, _, h⟩ := h
          have hld : (S.set 1 (3 + k) (IntKind.u64.wrap (s.epoch + 1))).act ((pinRout c).act { s with part := 3 }).1 r2 = (⟨e, ByteArray.empty⟩, S.set 1 (3 + k) (IntKind.u64.wrap (s.epoch + 1))) := by
            show PHeap.act _ (PPin.act { s with part := 3 }).1 r2 = _
            rw [ha3]
            exact he2.load r2
          rw [hld] at h
          have hT3 : (pinRout c).take { s with part := 3 } ⟨e, ByteArray.empty⟩ = { s with pin := s.at_, part := 5 } := PPin.take3a (s := { s with part := 3 }) rfl ⟨e, ByteArray.empty⟩ hep.symm
          rw [hT3] at h
          have hi3 := hi2.take ⟨e, ByteArray.empty⟩
          rw [show PPin.take { s with part := 3 } ⟨e, ByteArray.empty⟩ = { s with pin := s.at_, part := 5 } from hT3] at hi3
          obtain ⟨rfl, rfl, rfl⟩ := runs_stop hi3 rfl h
          left
          have h2 := hi.two (.inl hp)
          refine ⟨k, s.tried, ⟨Int.le_refl _, h2, hat2, fun i' g1 g2 => by omega⟩, by omega, hx0, rfl, htk, hk, hep, by rw [hep], ?_⟩
          show ((2 : Nat) : Int) = _
          omega
      · rw [if_neg hx0] at h
        by_cases ht : s.tried + 1 = s.cfg.pins
        · have hT : (pinRout c).take s ⟨x k, ByteArray.empty⟩ = { s with tried := s.tried + 1, pin := 0, epoch := 0, taken := true, part := 5 } := PPin.take2b hp _ hx0 ht
          rw [hT] at h
          rw [show s.take ⟨x k, ByteArray.empty⟩ = { s with tried := s.tried + 1, pin := 0, epoch := 0, taken := true, part := 5 } from hT] at hi2
          obtain ⟨rfl, rfl, rfl⟩ := runs_stop hi2 rfl h
          rw [hi.cfg] at ht
          right
          refine ⟨fun i h1 h2 => ?_, rfl, rfl, rfl, ?_⟩
          · have : i = s.tried := by omega
            rw [this, hat2]
            exact hx0
          · show ((1 : Nat) : Int) = _
            omega
        · have hT : (pinRout c).take s ⟨x k, ByteArray.empty⟩ = { s with tried := s.tried + 1 } := PPin.take2c hp _ hx0 ht
          rw [hT] at h
          rw [show s.take ⟨x k, ByteArray.empty⟩ = { s with tried := s.tried + 1 } from hT] at hi2
          have hst2 : m - 1 ≤ (l.length : Nat) ∨ (pinRout c).can S' s' = false := by
            rcases hst with h1 | h1
            · left; simp only [List.length_cons] at h1; omega
            · exact .inr h1
          have := pin_tries he hx d { s with tried := s.tried + 1 } hi2 hp htk hep (by show (d : Int) = c.pins - (s.tried + 1); omega) h hst2 (by omega)
          rcases this with ⟨j, i, ⟨i1, i2, i3, i4⟩, j1, j2, j3, j4, j5, j6, j7, j8⟩ | ⟨j1, j2, j3, j4, j5⟩
          · left
            have i1' : s.tried + 1 ≤ i := i1
            refine ⟨j, i, ⟨by omega, i2, i3, fun i' g1 g2 => ?_⟩, j1, j2, j3, j4, j5, j6, j7, ?_⟩
            · by_cases hi0 : i' = s.tried
              · rw [hi0, hat2]
                exact hx0
              · exact i4 i' (by show s.tried + 1 ≤ i'; omega) g2
            · simp only [List.length_cons]
              have : (l.length : Int) = i - (s.tried + 1) + 2 := j8
              omega
          · right
            refine ⟨fun i h1 h2 => ?_, j2, j3, j4, ?_⟩
            · by_cases hi0 : i = s.tried
              · rw [hi0, hat2]
                exact hx0
              · exact j1 i (by show s.tried + 1 ≤ i; omega) h2
            · simp only [List.length_cons]
              have : (l.length : Int) = c.pins - (s.tried + 1) := j5
              omega
/-- A thread that pins alone. -/
theorem pin_alone {c : PCfg} {S S' : PHeap} {x : Nat → Int} {e th m : Int} {s' : PPin} {xs : List (PAct × PGot)} (hc : c.Right) (hth : 0 ≤ th) (he : CtlAt S 0 e) (hx : PinsAt S x c.pins) (h : Runs (pinRout c) S (newPin c th) xs S' s')
    (hst : m ≤ (xs.length : Nat) ∨ (pinRout c).can S' s' = false) (hm : c.pins + 3 ≤ m) :
    (∃ (j : Nat) (i : Int), (0 ≤ i ∧ i < c.pins ∧ (th % c.pins + i) % c.pins = j ∧ ∀ i', 0 ≤ i' → i' < i → x ((th % c.pins + i') % c.pins).toNat ≠ 0) ∧ (j : Int) < c.pins ∧ x j = 0 ∧ s'.part = 5 ∧ s'.taken = false ∧ s'.pin = j ∧ s'.epoch = e ∧ S' = S.set 1 (3 + j) (IntKind.u64.wrap (e + 1)) ∧ (xs.length : Int) = i + 3) ∨
    ((∀ j : Nat, (j : Int) < c.pins → x j ≠ 0) ∧ s'.part = 5 ∧ s'.taken = true ∧ S' = S ∧ (xs.length : Int) = c.pins + 1) := by
  have hi := newPin_inv c hc th hth
  have hp := hc.pins
  match xs, h with
  | [], h =>
    obtain ⟨rfl, rfl⟩ := h
    rcases hst with h1 | h1
    · simp at h1; omega
    · rw [can_pin hi] at h1; cases h1
  | y :: l, h =>
    obtain ⟨_, r, _, h⟩ := h
    have ha : PPin.act (newPin c th) = (⟨1, 1, ((0 : Nat) : Int), 0, 0, ByteArray.empty⟩, true) := PPin.act1 (.inl rfl)
    have hld : S.act ((pinRout c).act (newPin c th)).1 r = (⟨e, ByteArray.empty⟩, S) := by
      show PHeap.act _ (PPin.act (newPin c th)).1 r = _
      rw [ha]
      exact he.load r
    rw [hld] at h
    have hT : (pinRout c).take (newPin c th) ⟨e, ByteArray.empty⟩ = { newPin c th with epoch := e, part := 2 } := PPin.take1 (s := newPin c th) rfl ⟨e, ByteArray.empty⟩
    rw [hT] at h
    have hi2 := hi.take ⟨e, ByteArray.empty⟩
    rw [show PPin.take (newPin c th) ⟨e, ByteArray.empty⟩ = { newPin c th with epoch := e, part := 2 } from hT] at hi2
    have hst2 : m - 1 ≤ (l.length : Nat) ∨ (pinRout c).can S' s' = false := by
      rcases hst with h1 | h1
      · left; simp only [List.length_cons] at h1; omega
      · exact .inr h1
    have := pin_tries he hx c.pins.toNat { newPin c th with epoch := e, part := 2 } hi2 rfl rfl rfl (by show ((c.pins.toNat : Nat) : Int) = c.pins - 0; omega) h hst2 (by omega)
    rcases this with ⟨j, i, i0, j1, j2, j3, j4, j5, j6, j7, j8⟩ | ⟨j1, j2, j3, j4, j5⟩
    · left
      refine ⟨j, i, i0, j1, j2, j3, j4, j5, j6, j7, ?_⟩
      simp only [List.length_cons]
      have : (l.length : Int) = i - 0 + 2 := j8
      omega
    · right
      refine ⟨fun j hj => ?_, j2, j3, j4, ?_⟩
      · have hf := hi2.first
        have hfe : PPin.first { newPin c th with epoch := e, part := 2 } = th % c.pins := rfl
        rw [hfe] at hf
        have k1 := Int.emod_nonneg ((j : Int) - th % c.pins) (b := c.pins) (by omega)
        have k2 := Int.emod_lt_of_pos ((j : Int) - th % c.pins) (b := c.pins) (by omega)
        have := j1 (((j : Int) - th % c.pins) % c.pins) k1 k2
        rw [hfe] at this
        have e1 : (th % c.pins + ((j : Int) - th % c.pins) % c.pins) % c.pins = j := by
          rw [Int.add_emod_emod, show th % c.pins + ((j : Int) - th % c.pins) = (j : Int) by omega]
          exact Int.emod_eq_of_lt (by omega) hj
        rw [e1] at this
        exact this
      · simp only [List.length_cons]
        have : (l.length : Int) = c.pins - 0 := j5
        omega
end Go.Proofs.YtmlnhjfdhjachaaGreat

/-
  Reading alone (layer 26): the plain law. No condition.
-/
namespace Go.Proofs.YtmlnhjfdhjachaaGreat
set_option linter.unusedVariables false
open Go.ChangeShapes Go.WideShapes Go.ChangeAt Go.RowKit
open Go.ChangeMaps (setBlock)

/-- A run of a routine within another one, and what comes behind it. -/
theorem runs_split {σ τ : Type} {Rt : Rout σ} {RC : Rout τ} {emb : Nat → σ → τ} (W : Within Rt.act Rt.take RC.act RC.take emb) : ∀ (xs : List (PAct × PGot)) (k : Nat) (s : σ) {S S' : PHeap} {c' : τ}, Runs RC S (emb k s) xs S' c' →
    ∃ xs1 xs2 S1 s1, xs = xs1 ++ xs2 ∧ Runs Rt S s xs1 S1 s1 ∧ Runs RC S1 (emb (k + xs1.length) s1) xs2 S' c' ∧ (xs2 = [] ∨ (Rt.act s1).2 = false)
  | [], k, s, S, S', c', h => ⟨[], [], S, s, rfl, ⟨rfl, rfl⟩, h, .inl rfl⟩
  | x :: xs, k, s, S, S', c', h => by
    cases ha : (Rt.act s).2 with
    | false => exact ⟨[], x :: xs, S, s, rfl, ⟨rfl, rfl⟩, h, .inr ha⟩
    | true =>
      obtain ⟨h1, r, hx, h2⟩ := h
      have e := W.hact k s ha
      have hcan : Rt.can S s = true := by
        unfold Rout.can at h1 ⊢
        rw [e] at h1
        exact h1
      rw [e] at hx h2
      rw [W.htake k s _ ha] at h2
      obtain ⟨xs1, xs2, S1, s1, e1, r1, r2, st⟩ := runs_split W xs (k + 1) _ h2
      refine ⟨x :: xs1, xs2, S1, s1, by rw [e1]; rfl, ⟨hcan, r, hx, r1⟩, ?_, st⟩
      rw [show k + (x :: xs1).length = k + 1 + xs1.length by simp; omega]
      exact r2
/-- The inner run stops where the outer one does, or where it is done. -/
theorem split_stop {σ τ : Type} {Rt : Rout σ} {RC : Rout τ} {emb : Nat → σ → τ} (W : Within Rt.act Rt.take RC.act RC.take emb) {xs1 xs2 : List (PAct × PGot)} {k : Nat} {S1 S' : PHeap} {s1 : σ} {c' : τ} {m : Int} (h : Runs RC S1 (emb k s1) xs2 S' c') (hd : xs2 = [] ∨ (Rt.act s1).2 = false) (hst : m ≤ ((xs1 ++ xs2).length : Nat) ∨ RC.can S' c' = false) :
    m ≤ (xs1.length : Nat) ∨ Rt.can S1 s1 = false := by
  cases ha : (Rt.act s1).2 with
  | false => exact .inr (by unfold Rout.can; rw [ha]; rfl)
  | true =>
    rcases hd with rfl | hd
    · obtain ⟨rfl, rfl⟩ := h
      rcases hst with h1 | h1
      · exact .inl (by simpa using h1)
      · right
        unfold Rout.can at h1 ⊢
        rwa [W.hact k s1 ha] at h1
    · rw [ha] at hd; cases hd
theorem rest_stop {xs1 xs2 : List (PAct × PGot)} {m : Int} {p : Prop} (h : m ≤ ((xs1 ++ xs2).length : Nat) ∨ p) : m - xs1.length ≤ (xs2.length : Nat) ∨ p := h.imp (fun e => by rw [List.length_append] at e; omega) id
/-- What lies in a field: the keys on their shelves, each shelf's versions, the pins, the epoch. -/
structure Laid (S : PHeap) (c : PCfg) (tx : Nat → Option ByteArray) (st : Nat → List PVersion) (pn : Nat → Int) (e : Int) : Prop where
  shelved : Shelved S c tx
  stack : ∀ j : Nat, (j : Int) < c.shelves → ∃ x, CtlAt S (kcell c j + 1) x ∧ Chained S x (st j) ∧ (0 ≤ x ∧ x ≤ 18446744073709551615)
  pins : PinsAt S pn c.pins
  epoch : CtlAt S 0 e
  faults : S.faults = 0
theorem set_keys {S : PHeap} {b : Int} {i : Nat} {v : Int} (h : ∀ x ∈ S.blocks, x.key ≤ S.last) : ∀ x ∈ (S.set b i v).blocks, x.key ≤ (S.set b i v).last := fun x hx => by
  obtain ⟨y, hy, rfl⟩ := List.mem_map.1 hx
  have := h y hy
  show (if y.key = b then ({ y with cells := y.cells.set i v } : PBlk) else y).key ≤ S.last
  split <;> exact this
/-- A cell of the control block's head turns: the shelves stay. -/
theorem Laid.head {S : PHeap} {c : PCfg} {tx : Nat → Option ByteArray} {st : Nat → List PVersion} {pn : Nat → Int} {e : Int} (h : Laid S c tx st pn e) (hc : c.Right) (i : Nat) (v : Int) (hi : (i : Int) < 3 + c.pins) :
    Shelved (S.set 1 i v) c tx ∧ (∀ j : Nat, (j : Int) < c.shelves → ∃ x, CtlAt (S.set 1 i v) (kcell c j + 1) x ∧ Chained (S.set 1 i v) x (st j) ∧ (0 ≤ x ∧ x ≤ 18446744073709551615)) := by
  have hold : ∀ k x, 2 ≤ k → S.find k = some x → (S.set 1 i v).find k = some x := fun k x h2 hx => by rw [find_other _ _ _ _ _ (by omega)]; exact hx
  have hcap := hc.cap
  refine ⟨⟨fun j hj => ?_, set_keys h.shelved.keys, h.shelved.one⟩, fun j hj => ?_⟩
  · obtain ⟨x, h1, h2, h3⟩ := h.shelved.at_ j hj
    have hk := kcell_eq hc j
    refine ⟨x, h1.other v (by omega), h2, fun t ht => ?_⟩
    obtain ⟨h4, b, h5, h6⟩ := h3 t ht
    exact ⟨h4, b, hold _ _ h4 h5, h6⟩
  · obtain ⟨x, h1, h2, h3⟩ := h.stack j hj
    have hk := kcell_eq hc j
    exact ⟨x, h1.other v (by omega), Chained.mono hold h2, h3⟩
theorem Laid.pin {S : PHeap} {c : PCfg} {tx : Nat → Option ByteArray} {st : Nat → List PVersion} {pn : Nat → Int} {e : Int} (h : Laid S c tx st pn e) (hc : c.Right) (k : Nat) (hk : (k : Int) < c.pins) (v : Int) : Laid (S.set 1 (3 + k) v) c tx st (fun j => if j = k then v else pn j) e := by
  obtain ⟨h1, h2⟩ := h.head hc (3 + k) v (by omega)
  refine ⟨h1, h2, fun j hj => ?_, h.epoch.other v (by omega), h.faults⟩
  by_cases hjk : j = k
  · subst hjk
    simp only [if_true]
    exact (h.pins j hj).same v
  · simp only [hjk, if_false]
    exact (h.pins j hj).other v (by omega)
theorem Laid.at_epoch {S : PHeap} {c : PCfg} {tx : Nat → Option ByteArray} {st : Nat → List PVersion} {pn : Nat → Int} {e : Int} (h : Laid S c tx st pn e) (hc : c.Right) (v : Int) : Laid (S.set 1 0 v) c tx st pn v := by
  have hp := hc.pins
  obtain ⟨h1, h2⟩ := h.head hc 0 v (by omega)
  exact ⟨h1, h2, fun j hj => (h.pins j hj).other v (by omega), h.epoch.same v, h.faults⟩
theorem Laid.alike {S : PHeap} {c : PCfg} {tx : Nat → Option ByteArray} {st : Nat → List PVersion} {pn pn' : Nat → Int} {e : Int} (h : Laid S c tx st pn e) (hp : ∀ j : Nat, (j : Int) < c.pins → pn j = pn' j) : Laid S c tx st pn' e :=
  ⟨h.shelved, h.stack, fun j hj => by rw [← hp j hj]; exact h.pins j hj, h.epoch, h.faults⟩
end Go.Proofs.YtmlnhjfdhjachaaGreat

/-
  A version more on a shelf (layer 24's Push). No condition.
-/
namespace Go.Proofs.YtmlnhjfdhjachaaGreat
set_option linter.unusedVariables false
open Go.ChangeShapes Go.WideShapes Go.ChangeAt Go.RowKit
open Go.ChangeMaps (setBlock)

theorem VS.ctl {S0 S : PHeap} {nb : Int} {r : Nat} {cells : List Int} {t : ByteArray} (h : VS S0 S nb r cells t) (hnb : nb ≠ 1) {i : Nat} {x : Int} (hc : CtlAt S0 i x) : CtlAt S i x := by
  obtain ⟨b, h1, h2, h3⟩ := hc
  exact ⟨b, (h.old 1 (fun e => hnb e.symm)).trans h1, h2, h3⟩
/-- The chain that begins with the new version. -/
theorem VS.chained {S0 S : PHeap} {r : Nat} {c : PChange} {epoch next : Int} {i : Nat} (h : VS S0 S (S0.last + 1) r [epoch, next, if c.has then 1 else 0] (verText c)) (hk : ∀ x ∈ S0.blocks, x.key ≤ S0.last) (hl : 1 ≤ S0.last) {l : List PVersion} (hc : Chained S0 next l) (v : Int) :
    Chained (S.set 1 i v) (S0.last + 1) (⟨S0.last + 1, epoch, c.has, c.value⟩ :: l) := by
  refine ⟨rfl, by show 2 ≤ S0.last + 1; omega, ⟨S0.last + 1, r, [epoch, next, if c.has then 1 else 0], verText c⟩, ?_, rfl, rfl, rfl, fun hh => ?_, ?_⟩
  · show (S.set 1 i v).find (S0.last + 1) = _
    rw [find_other _ _ _ _ _ (by omega)]
    exact h.new
  · show verText c = c.value
    unfold verText
    rw [if_pos hh]
  · show Chained _ next l
    refine hc.mono fun k x hk2 hx => ?_
    rw [find_other _ _ _ _ _ (by omega), h.old k (fun e => ?_)]
    · exact hx
    · have := hk x (find_mem hx).1
      have := (find_mem hx).2
      omega
end Go.Proofs.YtmlnhjfdhjachaaGreat

/-
  A chain read alone; a version pushed; the examples of the law of chains (layer 24). No condition.
-/
namespace Go.Proofs.YtmlnhjfdhjachaaGreat
set_option linter.unusedVariables false
open Go.ChangeShapes Go.WideShapes Go.ChangeAt Go.RowKit
open Go.ChangeMaps (setBlock)

end Go.Proofs.YtmlnhjfdhjachaaGreat

/-
  The law of chains (layer 24): what its loops reckon (the plain law). No condition.
-/
namespace Go.Proofs.YtmlnhjfdhjachaaGreat
set_option linter.unusedVariables false
open Go.ChangeShapes Go.WideShapes Go.ChangeAt Go.RowKit
open Go.ChangeMaps (setBlock)

end Go.Proofs.YtmlnhjfdhjachaaGreat

/-
  Rows of uint64 that the call owns, beside a heap of its own; changes that came in (layer 24). No condition.
-/
namespace Go.Proofs.YtmlnhjfdhjachaaGreat
set_option linter.unusedVariables false
open Go.ChangeShapes Go.WideShapes Go.ChangeAt Go.RowKit
open Go.ChangeMaps (setBlock)

structure URow (v : Value) (g : Nat) (o : Obj) (xs : List Int) : Prop where
  ex : ∃ cap cur, v = .slice (some ⟨g, 0, none⟩) xs.length cap ∧ o = .cells cur 22 ∧ xs.length ≤ cap ∧ cap ≤ maxLen ∧ cur.size = cap * 1 ∧ cur.toList.take (xs.length * 1) = xs.map (Value.int .u64)
theorem URow.nil (g : Nat) : URow (.slice (some ⟨g, 0, none⟩) 0 0) g (.cells #[] 22) [] := ⟨0, #[], rfl, rfl, Nat.le_refl _, Nat.zero_le _, rfl, rfl⟩
theorem URow.own {v : Value} {g : Nat} {o : Obj} {xs : List Int} (h : URow v g o xs) {W : World} {base : Nat} (hW : W.heap[g]? = some o) (hb : base ≤ g) : W.ownsRow base 22 1 v xs.length (xs.map (Value.int .u64)) := by
  obtain ⟨cap, cur, e1, e2, e3, e4, e5, e6⟩ := h.ex
  exact ⟨by simp, .inr ⟨g, cap, cur, e1, hb, by rw [hW, e2], e3, e4, e5, e6⟩⟩
theorem URow.block {v : Value} {g : Nat} {o : Obj} {xs : List Int} (h : URow v g o xs) : v.ownBlock = some g := by
  obtain ⟨cap, cur, e1, _⟩ := h.ex
  rw [e1]
  rfl
theorem URow.slice {v : Value} {g : Nat} {o : Obj} {xs : List Int} (h : URow v g o xs) : ∃ cap, v = .slice (some ⟨g, 0, none⟩) xs.length cap := by
  obtain ⟨cap, cur, e1, _⟩ := h.ex
  exact ⟨cap, e1⟩
theorem URow.of_own {W : World} {base n : Nat} {v : Value} {xs : List Int} (h : W.ownsRow base 22 1 v n (xs.map (Value.int .u64))) (hn : 0 < n) : ∃ g o, W.heap[g]? = some o ∧ URow v g o xs ∧ base ≤ g := by
  have hl : xs.length = n := by have := h.1; simpa using this
  rcases h.2 with ⟨_, h0⟩ | ⟨g, cap, cur, e1, e2, e3, e4, e5, e6, e7⟩
  · omega
  · exact ⟨g, _, e3, ⟨cap, cur, by rw [hl]; exact e1, rfl, by omega, e5, e6, by rw [hl]; exact e7⟩, e2⟩
theorem URow.cell {v : Value} {g : Nat} {o : Obj} {xs : List Int} (h : URow v g o xs) {W : World} (hW : W.heap[g]? = some o) {j : Nat} {x : Int} (hx : xs[j]? = some x) : W.cell? ⟨g, j, none⟩ = some (.int .u64 x) := by
  have h1 := (h.own (base := 0) hW (Nat.zero_le _)).cells (g := g) h.block j (.int .u64 x) (by simp [hx])
  have e2 : (⟨g, 0, none⟩ : Addr).add j = ⟨g, j, none⟩ := by unfold Addr.add; split <;> simp_all
  rw [e2] at h1
  exact h1
theorem OwnK.swap {w0 w : World} {hb : Nat} {S : PHeap} {F : Nat → Prop} {K : List (Nat × Obj)} {a b : Nat × Obj} (h : OwnK w0 hb S F (a :: b :: K) w) : OwnK w0 hb S F (b :: a :: K) w := ⟨h.own, fun x hx => h.keep x (by
  rcases List.mem_cons.1 hx with rfl | hx
  · exact List.mem_cons_of_mem _ (List.mem_cons_self ..)
  · rcases List.mem_cons.1 hx with rfl | hx
    · exact List.mem_cons_self ..
    · exact List.mem_cons_of_mem _ (List.mem_cons_of_mem _ hx))⟩
def chL (l : List PChange) : List Value := l.flatMap fun c => [Value.string c.key, .bool c.has, .string c.value]
theorem chL_at : ∀ (l : List PChange) (k : Nat) (c : PChange), l[k]? = some c → (chL l)[k * 3]? = some (.string c.key) ∧ (chL l)[k * 3 + 1]? = some (.bool c.has) ∧ (chL l)[k * 3 + 2]? = some (.string c.value)
  | [], k, c, h => by simp at h
  | d :: l, 0, c, h => by
    have e : d = c := by simpa using h
    subst e
    exact ⟨rfl, rfl, rfl⟩
  | d :: l, k + 1, c, h => by
    have h2 := chL_at l k c (by simpa using h)
    have e : ∀ j, (chL (d :: l))[j + 3]? = (chL l)[j]? := fun j => by
      show ([Value.string d.key, .bool d.has, .string d.value] ++ chL l)[j + 3]? = _
      rw [List.getElem?_append_right (by simp)]
      rfl
    rw [show (k + 1) * 3 = k * 3 + 3 by omega, e, show k * 3 + 3 + 1 = k * 3 + 1 + 3 by omega, e, show k * 3 + 3 + 2 = k * 3 + 2 + 3 by omega, e]
    exact h2
end Go.Proofs.YtmlnhjfdhjachaaGreat

/-
  What lies in a field, when a key is put, when a version is pushed: the plain law. No condition.
-/
namespace Go.Proofs.YtmlnhjfdhjachaaGreat
set_option linter.unusedVariables false
open Go.ChangeShapes Go.WideShapes Go.ChangeAt Go.RowKit
open Go.ChangeMaps (setBlock)

theorem field_laid (c : PCfg) (hc : c.Right) (r : Nat) : Laid (fieldS c r) c (fun _ => none) (fun _ => []) (fun _ => 0) 0 := by
  have hs := ctlSize_eq hc
  have h1 := hc.pins
  have h2 := hc.cap
  have h3 := hc.shelves
  refine ⟨field_shelved c hc r, fun j hj => ⟨0, field_ctl c r _ (by have := kcell_eq hc j; omega), rfl, by decide⟩, fun j hj => field_ctl c r _ (by omega), field_ctl c r 0 (by omega), rfl⟩
theorem Laid.put {S : PHeap} {c : PCfg} {tx : Nat → Option ByteArray} {st : Nat → List PVersion} {pn : Nat → Int} {e : Int} (h : Laid S c tx st pn e) (hc : c.Right) (p : Nat) (hp : (p : Int) < c.shelves) (r : Nat) (t : ByteArray) :
    Laid ((S.more r t).set 1 (kcell c p) (S.last + 1)) c (putT tx p t) st pn e := by
  have hold : ∀ k x, 2 ≤ k → S.find k = some x → ((S.more r t).set 1 (kcell c p) (S.last + 1)).find k = some x := fun k x h2 hx => by
    rw [find_other _ _ _ _ _ (by omega)]
    exact more_find_old hx r t
  have hkp := kcell_eq hc p
  have h1 := hc.pins
  have h2 := hc.cap
  refine ⟨h.shelved.put p hp r t, fun j hj => ?_, fun j hj => ?_, ?_, h.faults⟩
  · obtain ⟨x, k1, k2, k3⟩ := h.stack j hj
    have hkj := kcell_eq hc j
    exact ⟨x, (k1.more r t).other _ (by omega), Chained.mono hold k2, k3⟩
  · exact ((h.pins j hj).more r t).other _ (by omega)
  · exact (h.epoch.more r t).other _ (by omega)
def putS (st : Nat → List PVersion) (p : Nat) (v : PVersion) : Nat → List PVersion := fun j => if j = p then v :: st j else st j
theorem Laid.push {S S1 : PHeap} {c : PCfg} {tx : Nat → Option ByteArray} {st : Nat → List PVersion} {pn : Nat → Int} {e x ep : Int} {r : Nat} {v : PChange} (h : Laid S c tx st pn e) (hc : c.Right) (p : Nat) (hp : (p : Int) < c.shelves) (hl : S.last ≤ 1000000) (hx : CtlAt S (kcell c p + 1) x) (hch : Chained S x (st p))
    (hVS : VS S S1 (S.last + 1) r [ep, x, if v.has then 1 else 0] (verText v)) : Laid (S1.set 1 (kcell c p + 1) (S.last + 1)) c tx (putS st p ⟨S.last + 1, ep, v.has, v.value⟩) pn e := by
  have hone := h.shelved.one
  have hold : ∀ k y, 2 ≤ k → S.find k = some y → (S1.set 1 (kcell c p + 1) (S.last + 1)).find k = some y := fun k y h2 hy => by
    rw [find_other _ _ _ _ _ (by omega), hVS.old k (fun e => by
      have hm := find_mem hy
      have := h.shelved.keys y hm.1
      rw [hm.2] at this
      omega)]
    exact hy
  have hkp := kcell_eq hc p
  have h1 := hc.pins
  have h2 := hc.cap
  have hne : S.last + 1 ≠ 1 := by omega
  refine ⟨⟨fun j hj => ?_, ?_, by show 1 ≤ S1.last; rw [hVS.last]; omega⟩, fun j hj => ?_, fun j hj => ?_, ?_, by show S1.faults = 0; rw [hVS.faults]; exact h.faults⟩
  · obtain ⟨y, k1, k2, k3⟩ := h.shelved.at_ j hj
    have hkj := kcell_eq hc j
    refine ⟨y, (hVS.ctl hne k1).other _ (by omega), k2, fun t ht => ?_⟩
    obtain ⟨k4, b, k5, k6⟩ := k3 t ht
    exact ⟨k4, b, hold _ _ k4 k5, k6⟩
  · exact set_keys hVS.keys
  · by_cases hjp : j = p
    · subst hjp
      refine ⟨S.last + 1, (hVS.ctl hne hx).same _, ?_, by omega⟩
      unfold putS
      rw [if_pos rfl]
      exact hVS.chained h.shelved.keys hone hch _
    · obtain ⟨y, k1, k2, k3⟩ := h.stack j hj
      have hkj := kcell_eq hc j
      unfold putS
      rw [if_neg hjp]
      exact ⟨y, (hVS.ctl hne k1).other _ (by omega), Chained.mono hold k2, k3⟩
  · exact (hVS.ctl hne (h.pins j hj)).other _ (by omega)
  · exact (hVS.ctl hne h.epoch).other _ (by omega)
end Go.Proofs.YtmlnhjfdhjachaaGreat

/-
  Laying a version (layer 26's law): what it does to a field. No condition.
-/
namespace Go.Proofs.YtmlnhjfdhjachaaGreat
set_option linter.unusedVariables false
open Go.ChangeShapes Go.WideShapes Go.ChangeAt Go.RowKit
open Go.ChangeMaps (setBlock)

end Go.Proofs.YtmlnhjfdhjachaaGreat

/-
  The routine that lays changes (layer 30): what it is. No condition. (Printed by tools/ln.py.)
-/
namespace Go.Proofs.YtmlnhjfdhjachaaGreat
set_option linter.unusedVariables false
open Go.ChangeShapes Go.WideShapes Go.ChangeAt Go.RowKit
open Go.ChangeMaps (setBlock)

structure PLay where
  cfg : PCfg
  ep : Int
  l : List PChange
  part : Int
  find : PFind
  fk : Int
  fs : Int
  ver : PVer
  block : Int
  laid : Int
def PLay.cells (s : PLay) (lv fv vv : Value) : Array Value := #[.int .i64 s.cfg.cap, .int .i64 s.cfg.pins, .int .i64 s.cfg.shelves, .int .i64 s.cfg.queue, .int .i64 s.cfg.watchers, .int .u64 s.cfg.seed, .int .u64 s.ep, lv, .int .i64 s.part, fv, .int .i64 s.fk, .int .i64 s.fs, vv, .int .u64 s.block, .int .i64 s.laid]
/-- On to the next change. -/
def PLay.next (s : PLay) : PLay := match s.l with
  | [] => { s with part := 7 }
  | ch :: _ => { s with part := 1, find := newFind s.cfg ch.key }
def PLay.change (s : PLay) : PLay := PLay.next { s with l := s.l.tail }
/-- Behind looking for a key. -/
def PLay.look (s : PLay) : PLay := if s.find.kind = 0 then s else if s.find.kind = 3 then s.change else { s with fk := s.find.kind, fs := s.find.shelf, part := 2 }
/-- The change that is laid. -/
def PLay.ch (s : PLay) : PChange := s.l.headD ⟨ByteArray.empty, false, ByteArray.empty⟩
/-- What it does next. -/
def PLay.act (s : PLay) : PAct × Bool :=
  if s.part = 1 then s.find.act
  else if s.part = 2 then (⟨1, 1, 3 + s.cfg.pins + s.cfg.cap + 2 * s.fs + 1, 0, 0, ByteArray.empty⟩, true)
  else if s.part = 3 then s.ver.act
  else if s.part = 4 then (⟨2, 1, 3 + s.cfg.pins + s.cfg.cap + 2 * s.fs + 1, 0, s.block, ByteArray.empty⟩, true)
  else if s.part = 5 then (⟨5, 0, 0, 0, 0, s.ch.key⟩, true)
  else if s.part = 6 then (⟨2, 1, 3 + s.cfg.pins + s.cfg.cap + 2 * s.fs, 0, s.block, ByteArray.empty⟩, true)
  else if s.part = 7 then (⟨2, 1, 0, 0, s.ep, ByteArray.empty⟩, true)
  else (noAct, false)
/-- Behind a version's act. -/
def PLay.made (s : PLay) : PLay := if s.ver.result.2 then { s with block := s.ver.result.1, part := 4 } else s
/-- What it takes. -/
def PLay.take (s : PLay) (g : PGot) : PLay :=
  if s.part = 1 then PLay.look { s with find := s.find.take g }
  else if s.part = 2 then { s with ver := newVer s.ep g.word s.ch, part := 3 }
  else if s.part = 3 then PLay.made { s with ver := s.ver.take g }
  else if s.part = 4 then (if s.fk = 1 then PLay.change { s with laid := s.laid + 1, part := 5 } else { s with laid := s.laid + 1, part := 5 })
  else if s.part = 5 then { s with block := g.word, part := 6 }
  else if s.part = 6 then PLay.change s
  else if s.part = 7 then { s with part := 8 }
  else s
set_option maxRecDepth 100000 in
set_option maxHeartbeats 4000000 in
theorem layStore_any (cell v : Int) (w : World) : Calls Tryz.prog 106 #[.int .i64 cell, .int .u64 v] w fun e w' => e = .returned (.agg #[.int .i64 2, .int .u64 1, .int .i64 cell, .int .u64 0, .int .u64 v, .string ⟨#[]⟩]) ∧ Below w.heap.size w w' := by
  obtain ⟨W, hW⟩ : ∃ W, W = w.alloc (.cells #[.int .i64 0, .int .u64 0, .int .i64 0, .int .u64 0, .int .u64 0, .string ⟨#[]⟩] 31) := ⟨_, rfl⟩
  have B1 := Blk.new w 31 #[.int .i64 0, .int .u64 0, .int .i64 0, .int .u64 0, .int .u64 0, .string ⟨#[]⟩]
  have hb1 : Below w.heap.size w (w.alloc (.cells #[.int .i64 0, .int .u64 0, .int .i64 0, .int .u64 0, .int .u64 0, .string ⟨#[]⟩] 31)) := (Below.refl _ _).alloc (Nat.le_refl _) _
  rw [← hW] at B1 hb1
  have c0 := B1.cell 0
  have c1 := B1.cell 1
  have c2 := B1.cell 2
  have c3 := B1.cell 3
  have c4 := B1.cell 4
  have c5 := B1.cell 5
  have f0 := B1.frozen 0
  have f1 := B1.frozen 1
  have f2 := B1.frozen 2
  have f3 := B1.frozen 3
  have f4 := B1.frozen 4
  have f5 := B1.frozen 5
  have hlt := B1.lt
  replace B1 := Lib.hid B1
  replace hb1 := Lib.hid hb1
  go_enter Tryz.func106, Tryz.ntmps106
  go_upto_region 1 with fail
  rw [← hW]
  replace hW := Lib.hid hW
  go_wp2_with fail
  refine gen_world (α := fun W' => bodyPost _ _ _ _ _ W') (fun W' => Blk W' w.heap.size 31 #[.int .i64 2, .int .u64 1, .int .i64 cell, .int .u64 0, .int .u64 v, .string ⟨#[]⟩] ∧ Below w.heap.size w W') ⟨Blk.eq_cs ((((((B1.out.set_ 0 _).set_ 1 _).set_ 2 _).set_ 3 _).set_ 4 _).set_ 5 _) rfl, ?_⟩ ?_
  · repeat (refine Below.setCell ?_ (by exact Nat.le_refl _) _)
    exact hb1.out
  rintro W' ⟨g1, g2⟩
  have e0 := g1.cell 0
  have e1 := g1.cell 1
  have e2 := g1.cell 2
  have e3 := g1.cell 3
  have e4 := g1.cell 4
  have e5 := g1.cell 5
  exact bodyPost_ret (v := .agg #[.int .i64 2, .int .u64 1, .int .i64 cell, .int .u64 0, .int .u64 v, .string ⟨#[]⟩]) (by simp [results, Tryz.results106, go_sem, e0, e1, e2, e3, e4, e5]) rfl ⟨rfl, g2⟩
end Go.Proofs.YtmlnhjfdhjachaaGreat
