/-
  Frames: 'only the blocks in F, and new ones, have turned'. And blocks that are known whole. No condition.
-/
import Derived.Test.YtfelkkbgbgnpaaaMap
namespace Go.Proofs.Ytfelkkbgbgnpaaa
set_option linter.unusedVariables false
open Go.ChangeShapes Go.WideShapes Go.ChangeAt Go.RowKit
open Go.ChangeMaps (setBlock)

/-- Of what was there only blocks in F have turned. -/
structure Chg (F : Nat → Prop) (w w' : World) : Prop where
  os : w'.os = w.os
  tape : w'.tape = w.tape
  output : w'.output = w.output
  size : w.heap.size ≤ w'.heap.size
  block : ∀ k, k < w.heap.size → ¬ F k → w'.heap[k]? = w.heap[k]?

/-- F, and what is new between two worlds. -/
def nw (F : Nat → Prop) (w w' : World) : Nat → Prop := fun k => F k ∨ (w.heap.size ≤ k ∧ k < w'.heap.size)
/-- All of F lies in the world. -/
def In (F : Nat → Prop) (w : World) : Prop := ∀ k, F k → k < w.heap.size
def Off (F G : Nat → Prop) : Prop := ∀ k, F k → G k → False

section
variable {F G : Nat → Prop} {a b c w w' : World}
theorem Off.symm (h : Off F G) : Off G F := fun k g f => h k f g
theorem Chg.refl (F : Nat → Prop) (w : World) : Chg F w w := ⟨rfl, rfl, rfl, Nat.le_refl _, fun _ _ _ => rfl⟩
theorem Chg.trans (h : Chg F a b) (k : Chg G b c) (hG : ∀ i, G i → F i ∨ a.heap.size ≤ i) : Chg F a c :=
  ⟨k.os.trans h.os, k.tape.trans h.tape, k.output.trans h.output, Nat.le_trans h.size k.size, fun i hi hn =>
    (k.block i (Nat.lt_of_lt_of_le hi h.size) (fun hg => by
      rcases hG i hg with h1 | h1
      · exact hn h1
      · omega)).trans (h.block i hi hn)⟩
theorem Chg.then_ (h : Chg F a b) (k : Chg (nw F a b) b c) : Chg F a c := h.trans k fun i hi => by
  rcases hi with h1 | h1
  · exact .inl h1
  · exact .inr h1.1
theorem Chg.mono (h : Chg F a b) (hF : ∀ i, F i → G i) : Chg G a b := ⟨h.os, h.tape, h.output, h.size, fun i hi hn => h.block i hi fun hf => hn (hF i hf)⟩
theorem Chg.drew (h : Chg F a w) : Chg F a w.drew := ⟨h.os, h.tape, h.output, h.size, h.block⟩
theorem Chg.drewN (h : Chg F a w) (n : Nat) : Chg F a (w.drewN n) := ⟨h.os, h.tape, h.output, h.size, h.block⟩
theorem Chg.alloc (h : Chg F a w) (o : Obj) : Chg F a (w.alloc o) :=
  ⟨h.os, h.tape, h.output, Nat.le_trans h.size (by simp), fun i hi hn => (Below.heap_alloc w o i (Nat.lt_of_lt_of_le hi h.size)).trans (h.block i hi hn)⟩
theorem Chg.setCell (h : Chg F a w) {p : Addr} (hp : F p.block ∨ a.heap.size ≤ p.block) (u : Value) : Chg F a (w.setCell p u) :=
  ⟨h.os, h.tape, h.output, by simpa [World.setCell] using h.size, fun i hi hn => (Below.heap_setCell w p u i (by
    rintro rfl
    rcases hp with hp | hp
    · exact hn hp
    · omega)).trans (h.block i hi hn)⟩
theorem heap_setBlock (w : World) (m : Nat) (o : Obj) (i : Nat) (h : i ≠ m) : (setBlock w m o).heap[i]? = w.heap[i]? := by
  simp only [setBlock, Array.getElem?_setIfInBounds]
  rw [if_neg (by omega)]
theorem heap_setBlock_at (w : World) (m : Nat) (o : Obj) (h : m < w.heap.size) : (setBlock w m o).heap[m]? = some o := by
  simp [setBlock, h]
theorem size_setBlock (w : World) (m : Nat) (o : Obj) : (setBlock w m o).heap.size = w.heap.size := by simp [setBlock]
theorem size_setCell (w : World) (p : Addr) (u : Value) : (w.setCell p u).heap.size = w.heap.size := by simp [World.setCell]
theorem cell_setBlock {m : Nat} (W : World) (o : Obj) (p : Addr) (h : p.block ≠ m) : (ChangeMaps.setBlock W m o).cell? p = W.cell? p := World.cell?_of_block (heap_setBlock W m o p.block h)
theorem frozen_setBlock {m : Nat} (W : World) (o : Obj) (p : Addr) (h : p.block ≠ m) : (ChangeMaps.setBlock W m o).frozen? p = W.frozen? p := World.frozen?_of_block (heap_setBlock W m o p.block h)
theorem Chg.setBlock (h : Chg F a w) {m : Nat} (hm : F m ∨ a.heap.size ≤ m) (o : Obj) : Chg F a (setBlock w m o) :=
  ⟨h.os, h.tape, h.output, by rw [size_setBlock]; exact h.size, fun i hi hn => (heap_setBlock w m o i (by
    rintro rfl
    rcases hm with hm | hm
    · exact hn hm
    · omega)).trans (h.block i hi hn)⟩
theorem Chg.of_below (h : Below a.heap.size a b) (F : Nat → Prop) : Chg F a b := ⟨h.os, h.tape, h.output, h.size, fun i hi _ => h.block i hi⟩
theorem Chg.next_ (h : Chg F a b) (k : Below b.heap.size b c) : Chg F a c := h.trans (Chg.of_below k fun _ => False) fun _ hf => hf.elim
theorem Chg.below {B : Nat} (h : Chg F a b) (hF : ∀ i, F i → B ≤ i) (hB : B ≤ a.heap.size) : Below B a b := ⟨h.os, h.tape, h.output, h.size, fun i hi => h.block i (by omega) fun hf => by have := hF i hf; omega⟩
theorem Chg.cell (h : Chg F a b) {p : Addr} (hp : p.block < a.heap.size) (hn : ¬ F p.block) : b.cell? p = a.cell? p := World.cell?_of_block (h.block p.block hp hn)
theorem Chg.frozen (h : Chg F a b) {p : Addr} (hp : p.block < a.heap.size) (hn : ¬ F p.block) : b.frozen? p = a.frozen? p := World.frozen?_of_block (h.block p.block hp hn)
/-- What lies off F stays. -/
theorem Chg.off (h : Chg F a b) (hG : In G a) (ho : Off F G) : ∀ k, G k → b.heap[k]? = a.heap[k]? := fun k hk => h.block k (hG k hk) fun hf => ho k hf hk
theorem In.mono (h : In F a) (hs : a.heap.size ≤ b.heap.size) : In F b := fun k hk => Nat.lt_of_lt_of_le (h k hk) hs
theorem In.nw (h : In F a) (hs : a.heap.size ≤ b.heap.size) : In (nw F a b) b := fun k hk => by
  rcases hk with h1 | h1
  · exact Nat.lt_of_lt_of_le (h k h1) hs
  · exact h1.2
theorem Off.nw (h : Off F G) (hG : In G a) : Off (nw F a b) G := fun k hk hg => by
  rcases hk with h1 | h1
  · exact h k h1 hg
  · have := hG k hg
    omega
end

theorem Blk.keep {w w' : World} {g : Nat} {t : TypeId} {cs : Array Value} (h : Blk w g t cs) (hk : w'.heap[g]? = w.heap[g]?) : Blk w' g t cs := hk.trans h
theorem Blk.eq_cs {w : World} {g : Nat} {t : TypeId} {cs cs' : Array Value} (h : Blk w g t cs) (e : cs = cs') : Blk w g t cs' := e ▸ h
theorem Blk.setb {w : World} {g : Nat} {t : TypeId} {cs : Array Value} (h : Blk w g t cs) {m : Nat} (hm : g ≠ m) (o : Obj) : Blk (setBlock w m o) g t cs := (heap_setBlock w m o g hm).trans h
theorem MapIs.ne_blk {w : World} {m g : Nat} {l : List (Int × Value)} {t : TypeId} {cs : Array Value} (h : MapIs w m l) (hb : Blk w g t cs) : m ≠ g := by
  rintro rfl
  obtain ⟨es, c, h1, _⟩ := h.some_
  unfold Blk at hb
  rw [h1] at hb
  cases hb
end Go.Proofs.Ytfelkkbgbgnpaaa
