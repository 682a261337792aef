import Derived.RangeFuncNested
import Derived.RangeFuncBound
import Derived.RangeFuncCalls
import Derived.RangeFuncLeaves
import Derived.Shelf.Abstract
import Derived.Shelf.RegionOpen
import Derived.WalkKit
import Derived.OwnWalkIn
import Derived.TacticsInMore
import Derived.LoopNIn
import Derived.LoopIn
import Derived.Test.YtjoaifdjmdihoaaDoorBase
import Derived.Test.YtjoaifdjmdihoaaDoorDrive
import Derived.Laws.Tables
import Derived.WalkLawsBesides
/-
  A range over a function whose iterator changes memory: the law for a loop whose rounds all go on. No condition.
-/
namespace Go.Proofs.YtjoaifdjmdihoaaDoor
set_option linter.unusedVariables false
open Go.RowKit Go.Shelf

/-- The loop's two blocks of book-keeping lie as they should. -/
def Book (l D : Nat) (rec : Loop) (W : World) : Prop := W.heap[l]? = some (.loop rec) ∧ W.heap[D]? = some (.deferred (some []))

theorem rangeFunc_eff {α : Type} {P : Program} {g : Operand} {ps : Array Tmp} {assign body : Code} {Q : Exit → Act → World → Prop} {a : Act} {w : World}
    {gf : Nat} {lb : Array Value} (hg : a.eval g = .func (.func gf) #[] lb) (eg : ∀ args w, (callFunc gf args).run P w = .ok (.enter gf args) w)
    {encs : α → Array Value} (hps : ∀ x, (encs x).size = ps.size)
    (I : List α → World → Prop) (M : List α → α → World → Prop) (E : List α → World → Prop)
    (h0 : I [] ((w.alloc (.deferred (some []))).alloc (.loop { state := .ready, pending := none, fn := 0, tmps := a.tmps, params := ps, assign, body, defers := w.heap.size })))
    (hI0 : ∀ o o', I [] ((w.alloc (.deferred (some []))).alloc o) → I [] ((w.alloc (.deferred (some []))).alloc o'))
    (hM : ∀ pre x (W : World) o, M pre x W → M pre x (W.putObj (w.heap.size + 1) o))
    (hI : ∀ pre (W : World) o, I pre W → I pre (W.putObj (w.heap.size + 1) o))
    (hE : ∀ pre (W : World) o, E pre W → E pre (W.putObj (w.heap.size + 1) o))
    (hiter : ∀ (rec : Loop) (W : World), I [] W → Book (w.heap.size + 1) w.heap.size rec W →
      (∀ pre x W1, M pre x W1 → Book (w.heap.size + 1) w.heap.size rec W1 → YieldAt Fence.wide 0 P (w.heap.size + 1) (encs x) W1 fun e W' =>
        e = .returned (.bool true) ∧ I (pre ++ [x]) W' ∧ Book (w.heap.size + 1) w.heap.size rec W') →
      CallsIn Fence.wide 0 P gf (#[.func (.yield (w.heap.size + 1)) #[] #[]] ++ lb) W fun e W' => (∃ v, e = .returned v) ∧ ∃ xs, E xs W' ∧ Book (w.heap.size + 1) w.heap.size rec W')
    (a₁ : α → Act)
    (hassign : ∀ (l : Nat) (x : α) (W : World) (K : Act → World → Prop), K (a₁ x) W →
      assign.wpIn (Fence.wide.inRound l) 0 P (Exit.then K (fun _ _ _ => False)) { tmps := (ps.zip (encs x)).foldl (fun t (p, v) => t.setIfInBounds p v) a.tmps, defers := [] } W)
    (hbody : ∀ (pre : List α) (x : α) (W : World) (rec : Loop), M pre x W → Book (w.heap.size + 1) w.heap.size rec W → body.wpIn (Fence.wide.inRound (w.heap.size + 1)) 0 P (fun e _ W' => match e with
      | .normal => I (pre ++ [x]) W' ∧ Book (w.heap.size + 1) w.heap.size rec W'
      | _ => False) (a₁ x) W)
    (hdone : ∀ (xs : List α) (W : World), E xs W → W.heap[w.heap.size]? = some (.deferred (some [])) → Q .normal { a with defers := { target := .collected w.heap.size, args := #[] } :: a.defers } W) :
    (Code.rangeFunc g ps assign body).wpIn Fence.wide 0 P Q a w := by
  refine wpIn_rangeFunc ?_
  intro fn hfn
  rw [show Fence.wide.round = none from rfl]
  obtain ⟨rec, hrec⟩ : ∃ rec : LoopState → Option Code → Loop, rec = fun st pe => { state := st, pending := pe, fn, tmps := a.tmps, params := ps, assign, body, defers := w.heap.size } := ⟨_, rfl⟩
  obtain ⟨W1, hW1⟩ : ∃ W1, (w.alloc (.deferred (some []))).alloc (.loop (rec .ready none)) = W1 := ⟨_, rfl⟩
  have hL1 : W1.heap[w.heap.size + 1]? = some (.loop (rec .ready none)) := by
    rw [← hW1]; have := World.alloc_heap_new (w.alloc (.deferred (some []))) (.loop (rec .ready none)); rwa [World.size_alloc] at this
  have hK1 : W1.heap[w.heap.size]? = some (.deferred (some [])) := by
    rw [← hW1]; exact (Below.heap_alloc _ _ _ (by simp)).trans (World.alloc_heap_new w _)
  have hI1 : I [] W1 := by rw [← hW1]; exact hI0 _ _ h0
  refine ⟨w.heap.size + 1, [{ target := .collected w.heap.size, args := #[] }], W1, { target := .fn (.func gf) lb, args := #[.func (.yield (w.heap.size + 1)) #[] #[]] }, W1, gf,
    #[.func (.yield (w.heap.size + 1)) #[] #[]] ++ lb, W1, ?_, ?_, ?_, ?_, fun h => by simp [Fence.wide] at h, ?_⟩
  · rw [← hW1, hrec]; exact run_enterLoop_outer _ _ _ _ _
  · simp only [resolve, hg]
    simp [go_sem]
  · intro f' hf'; trivial
  · simp [invoke, go_sem, eg]
  · refine (hiter (rec .ready none) W1 hI1 ⟨hL1, hK1⟩ ?_).mono ?_
    · rintro pre x W hm ⟨hl, hk⟩
      have hlt : w.heap.size + 1 < W.heap.size := (Array.getElem?_eq_some_iff.1 hl).1
      have hy := run_yield (P := P) (args := encs x) hl (by rw [hrec]; exact hps x)
      rw [hrec] at hy
      refine ⟨fn, _, assign, body, hy, roundIn_of_wpIn hfn (hassign _ x W _ ⟨_, run_beginRound hl (by rw [hrec]), ?_⟩)⟩
      have hl2 : (W.putObj (w.heap.size + 1) (.loop { rec .ready none with state := .busy })).heap[w.heap.size + 1]? = some (.loop { rec .ready none with state := .busy }) := World.putObj_heap_same hlt
      have hk2 : (W.putObj (w.heap.size + 1) (.loop { rec .ready none with state := .busy })).heap[w.heap.size]? = some (.deferred (some [])) := (World.putObj_heap_other (by omega)).trans hk
      refine wpIn_mono (hbody pre x _ _ (hM pre x W _ hm) ⟨hl2, hk2⟩) ?_
      rintro e a3 W3 hp
      cases e with
      | normal =>
        obtain ⟨hi3, hl3, hk3⟩ := hp
        have hr := run_endRound (P := P) none hl3
        refine ⟨_, _, hr, rfl, hI _ _ _ hi3, ?_, (World.putObj_heap_other (by omega)).trans hk3⟩
        rw [World.putObj_heap_same (Array.getElem?_eq_some_iff.1 hl3).1, hrec]
        rfl
      | ret => exact hp.elim
      | exit id => exact hp.elim
      | goto t => exact hp.elim
      | panic ch => exact hp.elim
      | outgrown => exact hp.elim
    · rintro e W2 ⟨⟨v, rfl⟩, xs, he, hl, hk⟩
      exact ⟨none, _, by have := run_endLoop (P := P) hl (by rw [hrec]; simp); rw [hrec] at this; exact this, hdone xs _ (hE _ _ _ he) ((World.putObj_heap_other (by omega)).trans hk)⟩
end Go.Proofs.YtjoaifdjmdihoaaDoor

/-
  drive.Next for any routine. No condition.
-/
namespace Go.Proofs.YtjoaifdjmdihoaaDoor
set_option linter.unusedVariables false
open Go.ChangeShapes Go.WideShapes Go.ChangeAt Go.RowKit
open Go.ChangeMaps (setBlock)

theorem below_row {B : Nat} {w0 w : World} (h : Below B w0 w) (g : Nat) (cs : Array Value) (hg : B ≤ g) : Below B w0 (w.setRow g cs) :=
  h.trans ⟨rfl, rfl, rfl, by simp, fun k hk => setRow_other w g k cs (by omega)⟩
theorem chg_row {F : Nat → Prop} {a w : World} (h : Chg F a w) (g : Nat) (cs : Array Value) (hg : F g ∨ a.heap.size ≤ g) : Chg F a (w.setRow g cs) :=
  ⟨h.os, h.tape, h.output, by simpa using h.size, fun i hi hn => (setRow_other w g i cs (by
    rintro rfl
    rcases hg with hg | hg
    · exact hn hg
    · omega)).trans (h.block i hi hn)⟩
theorem zeroStep : stepV 0 noAct noGot = .agg #[.int .i64 0, .int .i64 0, .int .u64 0, .int .i64 0, .int .u64 0, .int .u64 0, .string ⟨#[]⟩, .int .u64 0, .string ⟨#[]⟩] := rfl
section
variable {σ : Type} (Rt : Rout σ)
def GoPost (F G : Nat → Prop) (hb b : Nat) (S : PHeap) (s : σ) (w : World) (e : Ending) (w' : World) : Prop :=
  ∃ r, e = .returned (.tuple #[stepV 0 (Rt.act s).1 (S.act (Rt.act s).1 r).1, .bool true]) ∧ Went Rt F G hb b (S.act (Rt.act s).1 r).2 (Rt.take s (S.act (Rt.act s).1 r).1) w w'
end
end Go.Proofs.YtjoaifdjmdihoaaDoor

/-
  drive.Steps: a routine's acts, handed out as they are done. No condition.
-/
namespace Go.Proofs.YtjoaifdjmdihoaaDoor
set_option linter.unusedVariables false
open Go.ChangeShapes Go.WideShapes Go.ChangeAt Go.RowKit Go.Shelf
open Go.ChangeMaps (setBlock)

section
variable {σ : Type} (Rt : Rout σ)
/-- Steps that are done, one behind the other. -/
def Runs : PHeap → σ → List (PAct × PGot) → PHeap → σ → Prop
  | S, s, [], S', s' => S = S' ∧ s = s'
  | S, s, x :: xs, S', s' => Rt.can S s = true ∧ ∃ r, x = ((Rt.act s).1, (S.act (Rt.act s).1 r).1) ∧ Runs (S.act (Rt.act s).1 r).2 (Rt.take s (S.act (Rt.act s).1 r).1) xs S' s'
theorem Runs.snoc : ∀ {xs : List (PAct × PGot)} {S S1 : PHeap} {s s1 : σ}, Runs Rt S s xs S1 s1 → Rt.can S1 s1 = true → ∀ r, Runs Rt S s (xs ++ [((Rt.act s1).1, (S1.act (Rt.act s1).1 r).1)]) (S1.act (Rt.act s1).1 r).2 (Rt.take s1 (S1.act (Rt.act s1).1 r).1)
  | [], S, S1, s, s1, h, hc, r => by
    obtain ⟨rfl, rfl⟩ := h
    exact ⟨hc, r, rfl, rfl, rfl⟩
  | x :: xs, S, S1, s, s1, h, hc, r => by
    obtain ⟨h1, r1, rfl, h2⟩ := h
    exact ⟨h1, r1, rfl, Runs.snoc h2 hc r⟩
theorem act_faults (S : PHeap) (x : PAct) (r : Nat) : (S.act x r).2.faults ≤ S.faults + 1 ∧ (S.act x r).2.last ≤ S.last + 1 := by
  have h1 : S.faults ≤ S.faults + 1 ∧ S.last ≤ S.last + 1 := by omega
  have hf : S.fault.faults ≤ S.faults + 1 ∧ S.fault.last ≤ S.last + 1 := by show S.faults + 1 ≤ _ ∧ S.last ≤ _; omega
  have hset : ∀ b i v, (S.set b i v).faults ≤ S.faults + 1 ∧ (S.set b i v).last ≤ S.last + 1 := fun b i v => h1
  unfold PHeap.act
  split
  · exact h1
  · split
    · unfold PHeap.load; split
      · exact h1
      · exact hf
    · split
      · unfold PHeap.store; split
        · exact hset _ _ _
        · exact hf
      · split
        · unfold PHeap.swap; split
          · simp only; split
            · exact hset _ _ _
            · exact h1
          · exact hf
        · split
          · unfold PHeap.bump; split
            · exact hset _ _ _
            · exact hf
          · split
            · unfold PHeap.make; split
              · show S.faults ≤ _ ∧ S.last + 1 ≤ _; omega
              · exact h1
            · split
              · unfold PHeap.words; split
                · exact h1
                · exact hf
              · split
                · unfold PHeap.drop; split
                  · exact h1
                  · exact hf
                · split
                  · exact h1
                  · split
                    · unfold PHeap.unlock; split
                      · exact h1
                      · exact hf
                    · exact h1
theorem Runs.bounds : ∀ {xs : List (PAct × PGot)} {S S1 : PHeap} {s s1 : σ}, Runs Rt S s xs S1 s1 → S1.faults ≤ S.faults + xs.length ∧ S1.last ≤ S.last + xs.length
  | [], S, S1, s, s1, h => by
    obtain ⟨rfl, rfl⟩ := h
    simp
  | x :: xs, S, S1, s, s1, h => by
    obtain ⟨h1, r1, rfl, h2⟩ := h
    have h3 := Runs.bounds h2
    have h4 := act_faults S (Rt.act s).1 r1
    simp only [List.length_cons]
    omega

/-- The end: as many steps as were asked, or the routine can't go on. -/
structure Fin (Z : Nat → Prop) (hb b : Nat) (most : Int) (S0 : PHeap) (s0 : σ) (xs : List (PAct × PGot)) (W : World) : Prop where
  ex : ∃ S s F G, Runs Rt S0 s0 xs S s ∧ HeapIn W hb S F ∧ Rt.R W G b s ∧ Off F G ∧ (∀ k, F k ∨ G k → Z k) ∧ (most ≤ xs.length ∨ Rt.can S s = false) ∧ (xs.length ≤ most ∨ xs = [])
def encS (x : PAct × PGot) : Array Value := #[stepV 0 x.1 x.2]
theorem book_chg {Z : Nat → Prop} {l D : Nat} {rec : Loop} {w w' : World} (h : Book l D rec w) (hc : Chg Z w w') (hzl : ¬ Z l) (hzD : ¬ Z D) : Book l D rec w' :=
  ⟨(hc.block l (Array.getElem?_eq_some_iff.1 h.1).1 hzl).trans h.1, (hc.block D (Array.getElem?_eq_some_iff.1 h.2).1 hzD).trans h.2⟩
def IterPost (Z : Nat → Prop) (hb b : Nat) (most : Int) (S0 : PHeap) (s0 : σ) (Cl : List (PAct × PGot) → World → Prop) (l D : Nat) (rec : Loop) (e : Ending) (W' : World) : Prop :=
  (∃ v, e = .returned v) ∧ ∃ xs, (Fin Rt Z hb b most S0 s0 xs W' ∧ Cl xs W') ∧ Book l D rec W'
attribute [local go_sem] Oper.semAt_some
end
end Go.Proofs.YtjoaifdjmdihoaaDoor

/-
  drive.Alone for any routine. No condition.
-/
namespace Go.Proofs.YtjoaifdjmdihoaaDoor
set_option linter.unusedVariables false
open Go.ChangeShapes Go.WideShapes Go.ChangeAt Go.RowKit Go.Shelf
open Go.ChangeMaps (setBlock)
attribute [local go_sem] Oper.semAt_some
section
variable {σ : Type} (Rt : Rout σ)
theorem Fin.off {Z : Nat → Prop} {hb b : Nat} {most : Int} {S0 : PHeap} {s0 : σ} {xs : List (PAct × PGot)} {W W' : World} {l : Nat} (h : Fin Rt Z hb b most S0 s0 xs W) (hs : W.heap.size ≤ W'.heap.size) (hk : ∀ k, k ≠ l → k < W.heap.size → W'.heap[k]? = W.heap[k]?) (hl : ¬ Z l) : Fin Rt Z hb b most S0 s0 xs W' := by
  obtain ⟨⟨S, s, F, G, k1, k2, k3, k4, k5, k6⟩⟩ := h
  exact ⟨⟨S, s, F, G, k1, k2.keep hs fun j hj => hk j (fun e => hl (e ▸ k5 j (.inl hj))) (k2.own j hj), Rt.keep k3 hs fun j hj => hk j (fun e => hl (e ▸ k5 j (.inr hj))) (Rt.own k3 j hj), k4, k5, k6⟩⟩
theorem put_same (W : World) (l : Nat) (o : Obj) : ∀ k, k ≠ l → k < W.heap.size → (W.putObj l o).heap[k]? = W.heap[k]? := fun k hk _ => World.putObj_heap_other (by omega)
/-- What Alone keeps of its own: how many steps were done; and what has turned so far. -/
structure Cnt (F G : Nat → Prop) (w : World) (nb : Nat) (pre : List (PAct × PGot)) (W : World) : Prop where
  n : Blk W nb 3 #[.int .i64 (pre.length : Nat)]
  chg : Chg (fun k => F k ∨ G k) w W
theorem Cnt.put {F G : Nat → Prop} {w W : World} {nb l : Nat} {pre : List (PAct × PGot)} (h : Cnt F G w nb pre W) (o : Obj) (h1 : nb ≠ l) (h2 : w.heap.size ≤ l) : Cnt F G w nb pre (W.putObj l o) :=
  ⟨h.n.keep (put_same W l o nb h1 h.n.lt), h.chg.os, h.chg.tape, h.chg.output, by simpa [World.putObj] using h.chg.size, fun k hk hn => (put_same W l o k (by omega) (Nat.lt_of_lt_of_le hk h.chg.size)).trans (h.chg.block k hk hn)⟩
/-- What going alone leaves. -/
def AlonePost (F G : Nat → Prop) (hb b : Nat) (most : Int) (S : PHeap) (s : σ) (w : World) (e : Ending) (w' : World) : Prop :=
  ∃ xs S' s', Runs Rt S s xs S' s' ∧ (most ≤ (xs.length : Nat) ∨ Rt.can S' s' = false) ∧ (((xs.length : Nat) : Int) ≤ most ∨ xs = []) ∧
    e = .returned (.tuple #[.int .i64 (xs.length : Nat), .bool (!(Rt.act s').2)]) ∧ Went Rt F G hb b S' s' w w'
end
end Go.Proofs.YtjoaifdjmdihoaaDoor
