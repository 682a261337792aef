/-
  A range over a function whose rounds begin by laying what they are given into a block of their own. No condition.
-/
import Derived.Test.YtjoaifdjmdihoaaAlone
namespace Go.Proofs.Ytjoaifdjmdihoaa
set_option linter.unusedVariables false
open Go.RowKit Go.Shelf

theorem rangeFunc_eff2 {α : Type} {P : Program} {g : Operand} {ps : Array Tmp} {assign body : Code} {Q : Exit → Act → World → Prop} {a : Act} {w : World}
    {gf : Nat} {lb : Array Value} (hg : a.eval g = .func (.func gf) #[] lb) (eg : ∀ args w, (callFunc gf args).run P w = .ok (.enter gf args) w)
    {encs : α → Array Value} (hps : ∀ x, (encs x).size = ps.size)
    (I : List α → World → Prop) (M : List α → α → World → Prop) (E : List α → World → Prop)
    (h0 : I [] ((w.alloc (.deferred (some []))).alloc (.loop { state := .ready, pending := none, fn := 0, tmps := a.tmps, params := ps, assign, body, defers := w.heap.size })))
    (hI0 : ∀ o o', I [] ((w.alloc (.deferred (some []))).alloc o) → I [] ((w.alloc (.deferred (some []))).alloc o'))
    (hI : ∀ pre (W : World) o, I pre W → I pre (W.putObj (w.heap.size + 1) o))
    (hE : ∀ pre (W : World) o, E pre W → E pre (W.putObj (w.heap.size + 1) o))
    (hiter : ∀ (rec : Loop) (W : World), I [] W → Book (w.heap.size + 1) w.heap.size rec W →
      (∀ pre x W1, M pre x W1 → Book (w.heap.size + 1) w.heap.size rec W1 → YieldAt Fence.wide 0 P (w.heap.size + 1) (encs x) W1 fun e W' =>
        e = .returned (.bool true) ∧ I (pre ++ [x]) W' ∧ Book (w.heap.size + 1) w.heap.size rec W') →
      CallsIn Fence.wide 0 P gf (#[.func (.yield (w.heap.size + 1)) #[] #[]] ++ lb) W fun e W' => (∃ v, e = .returned v) ∧ ∃ xs, E xs W' ∧ Book (w.heap.size + 1) w.heap.size rec W')
    (a₁ : α → World → Act) (w₁ : α → World → World) (hw₁ : ∀ x W, Below W.heap.size W (w₁ x W))
    (hassign : ∀ (l : Nat) (x : α) (W : World) (K : Act → World → Prop), K (a₁ x W) (w₁ x W) →
      assign.wpIn (Fence.wide.inRound l) 0 P (Exit.then K (fun _ _ _ => False)) { tmps := (ps.zip (encs x)).foldl (fun t (p, v) => t.setIfInBounds p v) a.tmps, defers := [] } W)
    (hbody : ∀ (pre : List α) (x : α) (W : World) (o : Obj) (rec : Loop), M pre x W → w.heap.size + 1 < W.heap.size → Book (w.heap.size + 1) w.heap.size rec ((w₁ x W).putObj (w.heap.size + 1) o) → body.wpIn (Fence.wide.inRound (w.heap.size + 1)) 0 P (fun e _ W' => match e with
      | .normal => I (pre ++ [x]) W' ∧ Book (w.heap.size + 1) w.heap.size rec W'
      | _ => False) (a₁ x W) ((w₁ x W).putObj (w.heap.size + 1) o))
    (hdone : ∀ (xs : List α) (W : World), E xs W → W.heap[w.heap.size]? = some (.deferred (some [])) → Q .normal { a with defers := { target := .collected w.heap.size, args := #[] } :: a.defers } W) :
    (Code.rangeFunc g ps assign body).wpIn Fence.wide 0 P Q a w := by
  refine wpIn_rangeFunc ?_
  intro fn hfn
  rw [show Fence.wide.round = none from rfl]
  obtain ⟨rec, hrec⟩ : ∃ rec : LoopState → Option Code → Loop, rec = fun st pe => { state := st, pending := pe, fn, tmps := a.tmps, params := ps, assign, body, defers := w.heap.size } := ⟨_, rfl⟩
  obtain ⟨W1, hW1⟩ : ∃ W1, (w.alloc (.deferred (some []))).alloc (.loop (rec .ready none)) = W1 := ⟨_, rfl⟩
  have hL1 : W1.heap[w.heap.size + 1]? = some (.loop (rec .ready none)) := by
    rw [← hW1]; have := World.alloc_heap_new (w.alloc (.deferred (some []))) (.loop (rec .ready none)); rwa [World.size_alloc] at this
  have hK1 : W1.heap[w.heap.size]? = some (.deferred (some [])) := by
    rw [← hW1]; exact (Below.heap_alloc _ _ _ (by simp)).trans (World.alloc_heap_new w _)
  have hI1 : I [] W1 := by rw [← hW1]; exact hI0 _ _ h0
  refine ⟨w.heap.size + 1, [{ target := .collected w.heap.size, args := #[] }], W1, { target := .fn (.func gf) lb, args := #[.func (.yield (w.heap.size + 1)) #[] #[]] }, W1, gf,
    #[.func (.yield (w.heap.size + 1)) #[] #[]] ++ lb, W1, ?_, ?_, ?_, ?_, fun h => by simp [Fence.wide] at h, ?_⟩
  · rw [← hW1, hrec]; exact run_enterLoop_outer _ _ _ _ _
  · simp only [resolve, hg]
    simp [go_sem]
  · intro f' hf'; trivial
  · simp [invoke, go_sem, eg]
  · refine (hiter (rec .ready none) W1 hI1 ⟨hL1, hK1⟩ ?_).mono ?_
    · rintro pre x W hm ⟨hl, hk⟩
      have hlt : w.heap.size + 1 < W.heap.size := (Array.getElem?_eq_some_iff.1 hl).1
      have hy := run_yield (P := P) (args := encs x) hl (by rw [hrec]; exact hps x)
      rw [hrec] at hy
      have hl' := ((hw₁ x W).block _ hlt).trans hl
      have hk' := ((hw₁ x W).block _ (by omega)).trans hk
      have hlt' : w.heap.size + 1 < (w₁ x W).heap.size := Nat.lt_of_lt_of_le hlt (hw₁ x W).size
      refine ⟨fn, _, assign, body, hy, roundIn_of_wpIn hfn (hassign _ x W _ ⟨_, run_beginRound hl' (by rw [hrec]), ?_⟩)⟩
      have hl2 : ((w₁ x W).putObj (w.heap.size + 1) (.loop { rec .ready none with state := .busy })).heap[w.heap.size + 1]? = some (.loop { rec .ready none with state := .busy }) := World.putObj_heap_same hlt'
      have hk2 : ((w₁ x W).putObj (w.heap.size + 1) (.loop { rec .ready none with state := .busy })).heap[w.heap.size]? = some (.deferred (some [])) := (World.putObj_heap_other (by omega)).trans hk'
      refine wpIn_mono (hbody pre x W _ _ hm hlt ⟨hl2, hk2⟩) ?_
      rintro e a3 W3 hp
      cases e with
      | normal =>
        obtain ⟨hi3, hl3, hk3⟩ := hp
        have hr := run_endRound (P := P) none hl3
        refine ⟨_, _, hr, rfl, hI _ _ _ hi3, ?_, (World.putObj_heap_other (by omega)).trans hk3⟩
        rw [World.putObj_heap_same (Array.getElem?_eq_some_iff.1 hl3).1, hrec]
        rfl
      | ret => exact hp.elim
      | exit id => exact hp.elim
      | goto t => exact hp.elim
      | panic ch => exact hp.elim
      | outgrown => exact hp.elim
    · rintro e W2 ⟨⟨v, rfl⟩, xs, he, hl, hk⟩
      exact ⟨none, _, by have := run_endLoop (P := P) hl (by rw [hrec]; simp); rw [hrec] at this; exact this, hdone xs _ (hE _ _ _ he) ((World.putObj_heap_other (by omega)).trans hk)⟩
end Go.Proofs.Ytjoaifdjmdihoaa
