/-
  The document's heap (layer 17): how it lies in memory, and what each of its methods does there. No condition.
-/
import Derived.Test.YtjoaifdjmdihoaaDoorDrive
import Derived.Test.YtjoaifdjmdihoaaDoorKeepP
namespace Go.Proofs.YtjoaifdjmdihoaaDoor
set_option linter.unusedVariables false
open Go.ChangeShapes Go.WideShapes Go.ChangeAt Go.RowKit
open Go.ChangeMaps (setBlock)

/-- A row at the front of a block, with spare room behind it. -/
structure Slab (w : World) (g : Nat) (e : TypeId) (size n cap : Nat) (xs : List Value) : Prop where
  ex : ∃ cur : List Value, Blk w g e cur.toArray ∧ cur.length = cap * size ∧ cur.take (n * size) = xs
  len : xs.length = n * size
  le : n ≤ cap
  big : cap ≤ maxLen
theorem Slab.own {w : World} {g : Nat} {e : TypeId} {size n cap : Nat} {xs : List Value} (h : Slab w g e size n cap xs) : w.ownsRow 0 e size (.slice (some ⟨g, 0, none⟩) n cap) n xs := by
  obtain ⟨cur, h1, h2, h3⟩ := h.ex
  exact ⟨h.len, .inr ⟨g, cap, cur.toArray, rfl, Nat.zero_le _, h1, h.le, h.big, by simpa using h2, by simpa using h3⟩⟩
theorem Slab.of_own {w : World} {base g : Nat} {e : TypeId} {size n cap : Nat} {xs : List Value} (h : w.ownsRow base e size (.slice (some ⟨g, 0, none⟩) n cap) n xs) : Slab w g e size n cap xs := by
  obtain ⟨h0, h⟩ := h
  rcases h with ⟨h1, _⟩ | ⟨g', cap', cur, e1, e2, e3, e4, e5, e6, e7⟩
  · cases h1
  · injection e1 with e1 _ e1'
    injection e1 with e1
    injection e1 with e1
    subst e1 e1'
    exact ⟨⟨cur.toList, by rw [Array.toArray_toList]; exact e3, by simpa using e6, e7⟩, h0, e4, e5⟩
theorem Slab.lt {w : World} {g : Nat} {e : TypeId} {size n cap : Nat} {xs : List Value} (h : Slab w g e size n cap xs) : g < w.heap.size := by
  obtain ⟨cur, h1, _⟩ := h.ex
  exact h1.lt
theorem Slab.keep {w w' : World} {g : Nat} {e : TypeId} {size n cap : Nat} {xs : List Value} (h : Slab w g e size n cap xs) (hk : w'.heap[g]? = w.heap[g]?) : Slab w' g e size n cap xs := by
  obtain ⟨cur, h1, h2, h3⟩ := h.ex
  exact ⟨⟨cur, h1.keep hk, h2, h3⟩, h.len, h.le, h.big⟩
theorem Slab.cell {w : World} {g : Nat} {e : TypeId} {size n cap : Nat} {xs : List Value} (h : Slab w g e size n cap xs) {i : Nat} (hi : i < n * size) : w.cell? ⟨g, i, none⟩ = xs[i]? := by
  obtain ⟨cur, h1, h2, h3⟩ := h.ex
  rw [h1.cell i, ← h3, List.getElem?_take]
  simp [hi]
theorem Slab.frozen {w : World} {g : Nat} {e : TypeId} {size n cap : Nat} {xs : List Value} (h : Slab w g e size n cap xs) (i : Nat) : w.frozen? ⟨g, i, none⟩ = false := by
  obtain ⟨cur, h1, _⟩ := h.ex
  exact h1.frozen i
theorem Slab.set {w : World} {g : Nat} {e : TypeId} {size n cap : Nat} {xs : List Value} (h : Slab w g e size n cap xs) (i : Nat) (u : Value) : Slab (w.setCell ⟨g, i, none⟩ u) g e size n cap (xs.set i u) := by
  obtain ⟨cur, h1, h2, h3⟩ := h.ex
  refine ⟨⟨cur.set i u, ?_, by simpa using h2, by rw [← h3, List.take_set]⟩, by simpa using h.len, h.le, h.big⟩
  have := h1.set_ i u
  simpa using this
theorem Slab.ne {w : World} {g g' : Nat} {e e' : TypeId} {size n cap size' n' cap' : Nat} {xs xs' : List Value} (h : Slab w g e size n cap xs) (h' : Slab w g' e' size' n' cap' xs') (hne : e ≠ e') : g ≠ g' := by
  obtain ⟨cur, h1, _⟩ := h.ex
  obtain ⟨cur', h1', _⟩ := h'.ex
  exact h1.ne_ h1' hne

/-- A block as the document keeps it: its cells' row lies at g. -/
structure RBlk where
  g : Nat
  cap : Nat
  cells : List Int
  text : ByteArray
  gone : Bool
def RBlk.cs (r : RBlk) : List Value := [.slice (some ⟨r.g, 0, none⟩) r.cells.length r.cap, .string r.text, .bool r.gone]
def RBlk.Tells (r : RBlk) (o : Option PBlk) : Prop := if r.gone = true then o = none else ∃ x, o = some x ∧ x.cells = r.cells ∧ x.text = r.text
def rCs (R : List RBlk) : List Value := R.flatMap RBlk.cs
theorem rCs_len (R : List RBlk) : (rCs R).length = R.length * 3 := by
  induction R with
  | nil => rfl
  | cons r R ih => unfold rCs at ih ⊢; simp only [List.flatMap_cons, List.length_append, List.length_cons, ih, RBlk.cs, List.length_nil]; omega
theorem rCs_at {R : List RBlk} {i : Nat} {r : RBlk} (h : R[i]? = some r) (j : Nat) (hj : j < 3) : (rCs R)[i * 3 + j]? = r.cs[j]? := by
  induction R generalizing i with
  | nil => simp at h
  | cons a R ih =>
    unfold rCs at ih ⊢
    cases i with
    | zero =>
      simp only [List.getElem?_cons_zero, Option.some.injEq] at h
      subst h
      rw [List.flatMap_cons, List.getElem?_append_left (by show _ < 3; omega)]
      congr 1
      omega
    | succ i =>
      have := ih (i := i) (by simpa using h)
      rw [List.flatMap_cons, List.getElem?_append_right (by show 3 ≤ _; omega), ← this]
      congr 1
      show (i + 1) * 3 + j - 3 = _
      omega
theorem rCs_gone {R : List RBlk} {i : Nat} {r : RBlk} (h : R[i]? = some r) : (rCs R).set (i * 3 + 2) (.bool true) = rCs (R.set i { r with gone := true }) := by
  induction R generalizing i with
  | nil => simp at h
  | cons a R ih =>
    unfold rCs at ih ⊢
    cases i with
    | zero =>
      simp only [List.getElem?_cons_zero, Option.some.injEq] at h
      subst h
      rfl
    | succ i =>
      have := ih (i := i) (by simpa using h)
      rw [List.flatMap_cons, List.set_append_right _ _ (by show 3 ≤ _; omega), List.set_cons_succ, List.flatMap_cons, ← this]
      congr 2
      show (i + 1) * 3 + 2 - 3 = _
      omega
theorem rCs_cells {R : List RBlk} {i : Nat} {r : RBlk} (h : R[i]? = some r) (cells : List Int) (hl : cells.length = r.cells.length) : rCs (R.set i { r with cells := cells }) = rCs R := by
  induction R generalizing i with
  | nil => simp at h
  | cons a R ih =>
    unfold rCs at ih ⊢
    cases i with
    | zero =>
      simp only [List.getElem?_cons_zero, Option.some.injEq] at h
      subst h
      simp only [List.set_cons_zero, List.flatMap_cons, RBlk.cs, hl]
    | succ i =>
      rw [List.set_cons_succ, List.flatMap_cons, List.flatMap_cons, ih (by simpa using h)]
/-- The rows lie in memory. -/
structure RowsIn (w : World) (F : Nat → Prop) (A : Option Addr) (cap : Nat) (R : List RBlk) : Prop where
  row : (A = none ∧ R = [] ∧ cap = 0) ∨ ∃ gv, A = some ⟨gv, 0, none⟩ ∧ F gv ∧ Slab w gv 73 3 R.length cap (rCs R)
  rows : ∀ r ∈ R, F r.g ∧ Slab w r.g 32 1 r.cells.length r.cap (r.cells.map (Value.int .u64))
  apart : (R.map (·.g)).Nodup
/-- The document's heap stands at xb, all of it in F, and is like S. -/
structure RefIn (w : World) (xb : Nat) (S : PHeap) (F : Nat → Prop) : Prop where
  own : In F w
  hF : F xb
  ex : ∃ (A : Option Addr) (cap : Nat) (R : List RBlk), Blk w xb 30 #[.slice A R.length cap, .bool S.locked, .int .i64 S.faults] ∧ RowsIn w F A cap R ∧ (R.length : Int) = S.last ∧ ∀ (i : Nat) r, R[i]? = some r → r.Tells (S.find ((i : Int) + 1))
  span : ∀ x ∈ S.blocks, 1 ≤ x.key ∧ x.key ≤ S.last
  faults0 : 0 ≤ S.faults
def RTurned (F : Nat → Prop) (xb : Nat) (S' : PHeap) (w w' : World) : Prop := RefIn w' xb S' (nw F w w') ∧ Chg F w w'
theorem RowsIn.keep {w w' : World} {F : Nat → Prop} {A : Option Addr} {cap : Nat} {R : List RBlk} (h : RowsIn w F A cap R) (hk : ∀ k, F k → w'.heap[k]? = w.heap[k]?) : RowsIn w' F A cap R :=
  ⟨h.row.imp id fun ⟨gv, h1, h2, h3⟩ => ⟨gv, h1, h2, h3.keep (hk _ h2)⟩, fun r hr => ⟨(h.rows r hr).1, (h.rows r hr).2.keep (hk _ (h.rows r hr).1)⟩, h.apart⟩
theorem RowsIn.mono {w : World} {F G : Nat → Prop} {A : Option Addr} {cap : Nat} {R : List RBlk} (h : RowsIn w F A cap R) (hF : ∀ k, F k → G k) : RowsIn w G A cap R :=
  ⟨h.row.imp id fun ⟨gv, h1, h2, h3⟩ => ⟨gv, h1, hF _ h2, h3⟩, fun r hr => ⟨hF _ (h.rows r hr).1, (h.rows r hr).2⟩, h.apart⟩
/-- Only the head has turned. -/
theorem RowsIn.head {w w' : World} {F : Nat → Prop} {A : Option Addr} {cap xb : Nat} {cs : Array Value} {R : List RBlk} (h : RowsIn w F A cap R) (hx : Blk w xb 30 cs) (hk : ∀ k, F k → k ≠ xb → w'.heap[k]? = w.heap[k]?) : RowsIn w' F A cap R := by
  have h1 : ∀ {g e size n cp xs}, e ≠ 30 → Slab w g e size n cp xs → g ≠ xb := fun he hs => by
    obtain ⟨cur, h4, _⟩ := hs.ex
    exact h4.ne_ hx he
  exact ⟨h.row.imp id fun ⟨gv, k1, k2, k3⟩ => ⟨gv, k1, k2, k3.keep (hk _ k2 (h1 (by decide) k3))⟩, fun r hr => ⟨(h.rows r hr).1, (h.rows r hr).2.keep (hk _ (h.rows r hr).1 (h1 (by decide) (h.rows r hr).2))⟩, h.apart⟩
theorem RefIn.keep {w w' : World} {xb : Nat} {S : PHeap} {F : Nat → Prop} (h : RefIn w xb S F) (hs : w.heap.size ≤ w'.heap.size) (hk : ∀ k, F k → w'.heap[k]? = w.heap[k]?) : RefIn w' xb S F := by
  obtain ⟨A, cap, R, h1, h2, h3, h4⟩ := h.ex
  exact ⟨h.own.mono hs, h.hF, ⟨A, cap, R, h1.keep (hk _ h.hF), h2.keep hk, h3, h4⟩, h.span, h.faults0⟩
theorem RefIn.mono {w : World} {xb : Nat} {S : PHeap} {F G : Nat → Prop} (h : RefIn w xb S F) (hG : In G w) (hF : ∀ k, F k → G k) : RefIn w xb S G := by
  obtain ⟨A, cap, R, h1, h2, h3, h4⟩ := h.ex
  exact ⟨hG, hF _ h.hF, ⟨A, cap, R, h1, h2.mono hF, h3, h4⟩, h.span, h.faults0⟩
theorem RefIn.below {w w' : World} {xb : Nat} {S : PHeap} {F : Nat → Prop} (h : RefIn w xb S F) (hb : Below w.heap.size w w') : RefIn w' xb S F := h.keep hb.size fun k hk => hb.block k (h.own k hk)
theorem RefIn.off {w w' : World} {xb : Nat} {S : PHeap} {F G : Nat → Prop} (h : RefIn w xb S F) (hc : Chg G w w') (ho : Off G F) : RefIn w' xb S F := h.keep hc.size (hc.off h.own ho)
theorem RTurned.still {w w1 : World} {xb : Nat} {S : PHeap} {F : Nat → Prop} (h : RefIn w xb S F) (hb1 : Below w.heap.size w w1) : RTurned F xb S w w1 :=
  ⟨(h.below hb1).mono (h.own.nw hb1.size) fun _ hk => .inl hk, Chg.of_below hb1 F⟩
theorem RTurned.trans {w w1 w2 : World} {xb : Nat} {S1 S2 : PHeap} {F : Nat → Prop} (t : RTurned F xb S1 w w1) (u : RTurned (nw F w w1) xb S2 w1 w2) : RTurned F xb S2 w w2 := by
  have hs := t.2.size
  refine ⟨u.1.mono (fun k hk => ?_) (fun k hk => ?_), t.2.then_ u.2⟩
  · have hs2 := u.2.size
    rcases hk with hk | hk
    · exact u.1.own k (.inl (.inl hk))
    · exact hk.2
  · rcases hk with (hk | hk) | hk
    · exact .inl hk
    · exact .inr ⟨hk.1, Nat.lt_of_lt_of_le hk.2 u.2.size⟩
    · exact .inr ⟨Nat.le_trans hs hk.1, hk.2⟩
/-- The head alone has turned: the lock, or the faults. -/
theorem RefIn.turn {w w' : World} {xb : Nat} {S S' : PHeap} {F : Nat → Prop} {A : Option Addr} {cap : Nat} {R : List RBlk} (h : RefIn w xb S F) (hx : Blk w xb 30 #[.slice A R.length cap, .bool S.locked, .int .i64 S.faults]) (hr : RowsIn w F A cap R) (hl : (R.length : Int) = S.last) (ht : ∀ (i : Nat) r, R[i]? = some r → r.Tells (S.find ((i : Int) + 1)))
    (hc : Chg (fun k => k = xb) w w') (hx' : Blk w' xb 30 #[.slice A R.length cap, .bool S'.locked, .int .i64 S'.faults]) (hb : S'.blocks = S.blocks) (hla : S'.last = S.last) (hf : 0 ≤ S'.faults) : RTurned F xb S' w w' := by
  have hfi : ∀ k, S'.find k = S.find k := fun k => by unfold PHeap.find; rw [hb]
  have hkk : ∀ k, F k → k ≠ xb → w'.heap[k]? = w.heap[k]? := fun k hk hn => hc.block k (h.own k hk) hn
  exact ⟨⟨h.own.nw hc.size, .inl h.hF, ⟨A, cap, R, hx', (hr.head hx hkk).mono fun _ hk => .inl hk, by rw [hla]; exact hl, fun i r hi => by rw [hfi]; exact ht i r hi⟩, by rw [hb, hla]; exact h.span, hf⟩, hc.mono fun i hi => hi ▸ h.hF⟩
/-- What stands at a key. -/
inductive RAt (S : PHeap) (R : List RBlk) (b : Int) : Prop
  | none (h1 : b = 0 ∨ (R.length : Int) < b) (h2 : S.find b = none) (h3 : S.miss b = 16)
  | gone (i : Nat) (r : RBlk) (hb : b = (i : Int) + 1) (hr : R[i]? = some r) (hg : r.gone = true) (h2 : S.find b = none) (h3 : S.miss b = 17)
  | hit (i : Nat) (r : RBlk) (x : PBlk) (hb : b = (i : Int) + 1) (hr : R[i]? = some r) (hg : r.gone = false) (h2 : S.find b = some x) (h3 : x.cells = r.cells) (h4 : x.text = r.text)
theorem RefIn.at_ {w : World} {xb : Nat} {S : PHeap} {F : Nat → Prop} (h : RefIn w xb S F) {R : List RBlk} (hl : (R.length : Int) = S.last) (ht : ∀ (i : Nat) r, R[i]? = some r → r.Tells (S.find ((i : Int) + 1))) (b : Int) (hb0 : 0 ≤ b) : RAt S R b := by
  by_cases h1 : b = 0 ∨ (R.length : Int) < b
  · refine .none h1 ?_ (by unfold PHeap.miss; rw [if_pos (by omega)])
    cases hx : S.find b with
    | none => rfl
    | some x =>
      obtain ⟨h3, h4⟩ := find_mem hx
      have := h.span x h3
      omega
  · have hi : (b - 1).toNat < R.length := by omega
    have hr : R[(b - 1).toNat]? = some R[(b - 1).toNat] := List.getElem?_eq_getElem hi
    have hb : b = (((b - 1).toNat : Nat) : Int) + 1 := by omega
    have := ht _ _ hr
    rw [← hb] at this
    unfold RBlk.Tells at this
    cases hg : R[(b - 1).toNat].gone with
    | true =>
      rw [if_pos hg] at this
      exact .gone _ _ hb hr hg this (by unfold PHeap.miss; rw [if_neg (by omega)])
    | false =>
      rw [if_neg (by rw [hg]; simp)] at this
      obtain ⟨x, h2, h3, h4⟩ := this
      exact .hit _ _ x hb hr hg h2 h3 h4
end Go.Proofs.YtjoaifdjmdihoaaDoor
