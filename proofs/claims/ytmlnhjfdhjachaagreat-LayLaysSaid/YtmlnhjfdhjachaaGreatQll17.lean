import Derived.Test.YtmlnhjfdhjachaaGreatProg
import Derived.OrdersIn
import Derived.TacticsIn
import Derived.OrdersHeld
import Derived.Sort.CutIn
import Derived.Test.YtmlnhjfdhjachaaGreatQll12
import Derived.Test.YtmlnhjfdhjachaaGreatQll15
import Derived.Test.YtmlnhjfdhjachaaGreatQll16
/-
  A region that draws its order and only reads, in the fenced walk (in a round too): one order serves. No condition.
-/
namespace Go.Proofs.YtmlnhjfdhjachaaGreat
set_option linter.unusedVariables false
open Go.ChangeShapes Go.WideShapes Go.ChangeAt Go.RowKit

section
variable {F : Fence} {n : Nat} {P : Program} {ops : Array Oper} {Q : Exit → Act → World → Prop} {md : Region.Mode} {w : World}
/-- In this world the operation leaves v and nothing else. -/
def StAt (P : Program) (ops : Array Oper) (w : World) (o : Oper) (v : Value) (a : Act) : Prop :=
  (Region.wanted o (yielded ops a.tmps) = true ∧ (execOp a.eval o).run P w = .ok (.value v) w) ∨ (Region.wanted o (yielded ops a.tmps) = false ∧ v = undef)
theorem StAt.of_same {o : Oper} {v : Value} {a a' : Act} (hy : StAt P ops w o v a) (he : execOp a'.eval o = execOp a.eval o) (hw : Region.wanted o (yielded ops a'.tmps) = Region.wanted o (yielded ops a.tmps)) : StAt P ops w o v a' := by
  unfold StAt at *
  rw [he, hw]
  exact hy
theorem StAt.wpOpIn {i : Nat} {o : Oper} {v : Value} {a : Act} (hF : ∀ f, F.fn f) (hd : ∀ c, o.op ≠ .defer c) (hi : ops[i]? = some o) (hy : StAt P ops w o v a) {K : Act → World → Prop} (h : K (a.put o.dst v) w) : wpOpIn F n P ops Q i K a w := by
  unfold Go.wpOpIn
  simp only [hi]
  rcases hy with ⟨hw, hv⟩ | ⟨hw, rfl⟩
  · simp only [hw, if_true, Oper.wpIn, Oper.semAt_eq _ _ _ hd, hv, Oper.uponIn]; exact ⟨fun f _ => hF f, h⟩
  · simp only [hw, Bool.false_eq_true, if_false]; exact ⟨fun f _ => hF f, h⟩
end
end Go.Proofs.YtmlnhjfdhjachaaGreat

/-
  A region that draws its order, in the fenced walk (every function may be called): one order serves, with calls in it. No condition.
-/
namespace Go.Proofs.YtmlnhjfdhjachaaGreat
set_option linter.unusedVariables false
open Go.ChangeShapes Go.WideShapes Go.ChangeAt Go.RowKit

section
variable {F : Fence} {n : Nat} {P : Program} {ops : Array Oper} {Q : Exit → Act → World → Prop} {md : Region.Mode} {S : World → Prop}
theorem YieldsIf.wpOpC {i : Nat} {o : Oper} {v : Value} {a : Act} (hro : F.round = none) (hF : ∀ f, F.fn f) (hi : ops[i]? = some o) (hy : YieldsIf P ops S o v a)
    {K : Act → World → Prop} {w : World} (hS : S w) (h : K (a.put o.dst v) w) : wpOpIn F n P ops Q i K a w := by
  unfold Go.wpOpIn
  simp only [hi]
  rcases hy with ⟨hw, hv⟩ | ⟨hw, rfl⟩
  · simp only [hw, if_true, Oper.wpIn, hro, Oper.semAt_none, hv w hS, Oper.uponIn]; exact ⟨fun f _ => hF f, h⟩
  · simp only [hw, Bool.false_eq_true, if_false]; exact ⟨fun f _ => hF f, h⟩
theorem wpOpC_put {j : Nat} {oi oj : Oper} {v : Value} (hro : F.round = none) (hF : ∀ f, F.fn f) (hj : ops[j]? = some oj) (hap : oi.apart ops oj = true)
    (hsi : ∀ cs b, oi.op ≠ .select cs b) (hsj : ∀ cs b, oj.op ≠ .select cs b) (hQ : ∀ c a w, ¬ Q (.panic c) a w) {K : Act → World → Prop} {a : Act} {w : World}
    (hy : YieldsIf P ops S oi v a) (h : wpOpIn F n P ops Q j K (a.put oi.dst v) w) :
    wpOpIn F n P ops Q j (fun a' w' => YieldsIf P ops S oi v a' ∧ K (a'.put oi.dst v) w') a w := by
  obtain ⟨h1, h2, h3⟩ := Oper.apart_spec hap
  have keep : ∀ (a : Act), YieldsIf P ops S oi v a → ∀ u, YieldsIf P ops S oi v (a.put oj.dst u) := fun a hy u =>
    hy.of_same (execOp_put oi hsi a oj.dst u h3) (wanted_put oi a oj.dst u h3)
  have keepD : ∀ d, YieldsIf P ops S oi v { a with defers := d :: a.defers } := fun d => hy.of_same rfl rfl
  unfold wpOpIn at *
  simp only [hj] at *
  rw [wanted_put oj a oi.dst v h1] at h
  split
  · rename_i hw
    simp only [hw, if_true] at h
    unfold Oper.wpIn at *
    refine ⟨fun f _ => hF f, ?_⟩
    have h := h.2
    rw [hro, Oper.semAt_none, execOp_put oj hsj a oi.dst v h1] at h
    rw [hro, Oper.semAt_none]
    generalize (execOp a.eval oj).run P w = r at *
    cases r with
    | ok x w' =>
      cases x <;> simp only [Oper.uponIn] at h ⊢
      case value u => exact ⟨keep a hy u, by rw [← Act.put_comm a v u h2]; exact h⟩
      case skip => exact ⟨keep a hy _, by rw [← Act.put_comm a v undef h2]; exact h⟩
      case defer d =>
        refine ⟨keep _ (keepD d) _, ?_⟩
        rw [← Act.put_comm _ v undef h2, ← Act.put_defers]
        exact h
      case enter f args =>
        refine ⟨h.1, CallsIn.mono h.2 fun e w'' he => ?_⟩
        cases e with
        | returned u => exact ⟨keep a hy u, by rw [← Act.put_comm a v u h2]; exact he⟩
        | panicked c => exact (hQ _ _ _ he).elim
        | outgrown => exact he
      case row row args => exact ⟨h.1, RowsIn.mono h.2 fun u w'' he => ⟨keep a hy u, by rw [← Act.put_comm a v u h2]; exact he⟩⟩
      case round l f tmps assign body =>
        refine ⟨h.1, RoundIn.mono h.2 fun e w'' he => ?_⟩
        cases e with
        | returned u => exact ⟨keep a hy u, by rw [← Act.put_comm a v u h2]; exact he⟩
        | panicked c => exact (hQ _ _ _ he).elim
        | outgrown => exact he
    | halt x w' =>
      cases x <;> simp only [Oper.uponIn] at h ⊢
      case panic u => exact (hQ _ _ _ h).elim
  · rename_i hw
    simp only [hw] at h
    exact ⟨fun f _ => hF f, keep a hy _, by rw [← Act.put_comm a v undef h2]; exact h.2⟩
/-- Whatever order is picked; S holds behind each operation. -/
def wpAnyC (F : Fence) (n : Nat) (P : Program) (md : Region.Mode) (ops : Array Oper) (Q : Exit → Act → World → Prop) (S : World → Prop) : Nat → Array Bool → Act → World → Prop
  | 0, listed, a, w => Region.ready md ops listed = [] ∧ Q .normal a w
  | f + 1, listed, a, w => (Region.ready md ops listed = [] → Q .normal a w) ∧ ∀ i ∈ Region.ready md ops listed, wpOpIn F n P ops Q i (fun a' w' => S w' ∧ wpAnyC F n P md ops Q S f (listed.setIfInBounds i true) a' w') a w
theorem wpAnyIn_of_C : ∀ (fuel : Nat) (listed : Array Bool) (a : Act) (w : World), wpAnyC F n P md ops Q S fuel listed a w → wpAnyIn F n P md ops Q fuel listed a w
  | 0, _, _, _, h => h
  | fuel + 1, _, _, _, h => ⟨h.1, fun i hi => wpOpIn_mono (fun a' w' h' => wpAnyIn_of_C fuel _ a' w' h'.2) (h.2 i hi)⟩
theorem wpAnyC_sub {S' : World → Prop} (hS : ∀ w, S' w → S w) : ∀ (fuel : Nat) (listed : Array Bool) (a : Act) (w : World), wpAnyC F n P md ops Q S' fuel listed a w → wpAnyC F n P md ops Q S fuel listed a w
  | 0, _, _, _, h => h
  | f + 1, _, _, _, h => ⟨h.1, fun i hi => wpOpIn_mono (fun a' w' h' => ⟨hS _ h'.1, wpAnyC_sub hS f _ a' w' h'.2⟩) (h.2 i hi)⟩
theorem wpAnyC_first {i : Nat} {oi : Oper} {v : Value} (hro : F.round = none) (hF : ∀ f, F.fn f) (hi : ops[i]? = some oi) (hsel : ∀ (j : Nat) (o : Oper) cs b, ops[j]? = some o → o.op ≠ .select cs b) (hQ : ∀ c a w, ¬ Q (.panic c) a w) :
    ∀ (fuel : Nat) (listed : Array Bool) (a : Act) (w : World),
      (∀ j oj, ops[j]? = some oj → j ≠ i → listed.getD j true = false → (∀ e ∈ oj.after, Region.binds md e = true → e.on ≠ i) → oi.apart ops oj = true) →
      i ∈ Region.ready md ops listed → YieldsIf P ops S oi v a → S w →
      wpAnyC F n P md ops Q S fuel (listed.setIfInBounds i true) (a.put oi.dst v) w → wpAnyC F n P md ops Q S (fuel + 1) listed a w := by
  intro fuel
  induction fuel with
  | zero =>
    intro listed a w _ hr hy hS H
    refine ⟨fun h => (by rw [h] at hr; cases hr), fun j hj => ?_⟩
    by_cases hji : j = i
    · subst hji; exact YieldsIf.wpOpC hro hF hi hy hS ⟨hS, H⟩
    · have := ready_mono hj hji
      rw [H.1] at this
      cases this
  | succ fuel ih =>
    intro listed a w hfree hr hy hS H
    refine ⟨fun h => (by rw [h] at hr; cases hr), fun j hj => ?_⟩
    by_cases hji : j = i
    · subst hji; exact YieldsIf.wpOpC hro hF hi hy hS ⟨hS, H⟩
    · have h1 := H.2 j (ready_mono hj hji)
      obtain ⟨hjun, oj, hoj, hall⟩ := mem_ready.1 hj
      have hnot : ∀ e ∈ oj.after, Region.binds md e = true → e.on ≠ i := fun e he hb heq => by
        have h1 := hall e he hb
        have h0 := (mem_ready.1 hr).1
        rw [heq] at h1
        rcases Nat.lt_or_ge i listed.size with h' | h'
        · simp [h'] at h0 h1; rw [h0] at h1; cases h1
        · simp [Array.getElem?_eq_none h'] at h1
      have h2 := wpOpC_put hro hF hoj (hfree j oj hoj hji hjun hnot) (fun cs b => hsel i oi cs b hi) (fun cs b => hsel j oj cs b hoj) hQ hy h1
      have hfree' : ∀ k ok, ops[k]? = some ok → k ≠ i → (listed.setIfInBounds j true).getD k true = false →
          (∀ e ∈ ok.after, Region.binds md e = true → e.on ≠ i) → oi.apart ops ok = true := fun k ok hk hki hun hno => by
        refine hfree k ok hk hki ?_ hno
        by_cases hjk : j = k
        · subst hjk; exact hjun
        · rw [getD_set_ne true hjk] at hun; exact hun
      refine wpOpIn_mono (fun a' w' h3 => ⟨h3.2.1, ih (listed.setIfInBounds j true) a' w' hfree' (ready_mono hr (Ne.symm hji)) h3.1 h3.2.1 ?_⟩) h2
      rw [Array.setIfInBounds_comm _ _ hji]
      exact h3.2.2
end
def wpLexC (F : Fence) (n : Nat) (P : Program) (l : List Oper) (R : Act → World → Prop) : List (Bool × Nat) → (World → Prop) → Act → World → Prop
  | [], _, a, w => R a w
  | (b, k) :: t, S, a, w => ∃ o, l[k]? = some o ∧ (if Region.wanted o (yielded l.toArray a.tmps) = true then
      (if b = true then S w ∧ ∃ v, (∀ w', S w' → (execOp a.eval o).run P w' = .ok (.value v) w') ∧ wpLexC F n P l R t S (a.put o.dst v) w
       else o.wpIn F n P a w (fun a' w' => ∃ S' : World → Prop, (∀ w, S' w → S w) ∧ S' w' ∧ wpLexC F n P l R t S' a' w') (OnlyN R))
      else S w ∧ wpLexC F n P l R t S (a.put o.dst undef) w)
section
variable {F : Fence} {n : Nat} {P : Program} {l : List Oper} {R : Act → World → Prop} {k : Nat} {b : Bool} {t : List (Bool × Nat)} {S : World → Prop} {a : Act} {w : World} {o : Oper} {v : Value}
theorem lexC_take (ho : l[k]? = some o) (hw : Region.wanted o (yielded l.toArray a.tmps) = true) (hS : S w)
    (hy : ∀ w', S w' → (execOp a.eval o).run P w' = .ok (.value v) w') (h : wpLexC F n P l R t S (a.put o.dst v) w) : wpLexC F n P l R ((true, k) :: t) S a w := by
  unfold wpLexC
  refine ⟨o, ho, ?_⟩
  rw [if_pos hw, if_pos rfl]
  exact ⟨hS, v, hy, h⟩
theorem lexC_call (ho : l[k]? = some o) (hw : Region.wanted o (yielded l.toArray a.tmps) = true)
    (h : ∀ K : Act → World → Prop, Hid (∀ (a' : Act) (w' : World) (S' : World → Prop), (∀ w, S' w → S w) → S' w' → wpLexC F n P l R t S' a' w' → K a' w') → o.wpIn F n P a w K (OnlyN R)) : wpLexC F n P l R ((false, k) :: t) S a w := by
  unfold wpLexC
  refine ⟨o, ho, ?_⟩
  rw [if_pos hw, if_neg (by simp)]
  exact h _ (Lib.hid fun a' w' S' h1 h2 h3 => ⟨S', h1, h2, h3⟩)
theorem lexC_end (h : R a w) : wpLexC F n P l R [] S a w := h
theorem wpAnyC_of_lex {md : Region.Mode} (hro : F.round = none) (hF : ∀ f, F.fn f) (hs : Region.noSelect l.toArray = true) : ∀ (ord : List (Bool × Nat)) (listed : Array Bool) (S : World → Prop) (a : Act) (w : World), lexOK md l.toArray ord listed = true →
    wpLexC F n P l R ord S a w → wpAnyC F n P md l.toArray (OnlyN R) S ord.length listed a w
  | [], listed, S, a, w, hB, h => ⟨by simpa [lexOK] using hB, h⟩
  | (true, k) :: t, listed, S, a, w, hB, h => by
    simp only [lexOK, Bool.and_eq_true] at hB
    obtain ⟨⟨hr, hf⟩, hB'⟩ := hB
    obtain ⟨o, ho, h⟩ := h
    have hi : l.toArray[k]? = some o := by simpa using ho
    have take : ∀ v, YieldsIf P l.toArray S o v a → S w → wpLexC F n P l R t S (a.put o.dst v) w → wpAnyC F n P md l.toArray (OnlyN R) S (t.length + 1) listed a w := fun v hy hS h =>
      wpAnyC_first hro hF hi (Region.noSelect_spec hs) (fun _ _ _ h => h) t.length listed a w (Region.free_spec hi hf) (by simpa using hr) hy hS (wpAnyC_of_lex hro hF hs t _ S _ w hB' h)
    by_cases hw : Region.wanted o (yielded l.toArray a.tmps) = true
    · rw [if_pos hw, if_pos rfl] at h
      obtain ⟨hS, v, hy, h⟩ := h
      exact take v (Or.inl ⟨hw, hy⟩) hS h
    · rw [if_neg hw] at h
      obtain ⟨hS, h⟩ := h
      exact take undef (Or.inr ⟨by simpa using hw, rfl⟩) hS h
  | (false, k) :: t, listed, S, a, w, hB, h => by
    simp only [lexOK, Bool.and_eq_true, decide_eq_true_eq] at hB
    obtain ⟨hr, hB'⟩ := hB
    obtain ⟨o, ho, h⟩ := h
    have hi : l.toArray[k]? = some o := by simpa using ho
    refine ⟨fun h0 => (by rw [hr] at h0; cases h0), fun i hir => ?_⟩
    rw [hr] at hir
    have hik : i = k := by simpa using hir
    subst hik
    unfold wpOpIn
    simp only [hi]
    by_cases hw : Region.wanted o (yielded l.toArray a.tmps) = true
    · rw [if_pos hw] at h ⊢
      rw [if_neg (by simp)] at h
      exact Oper.wpIn_mono (fun a' w' ⟨S', h1, h2, h3⟩ => ⟨h1 _ h2, wpAnyC_sub h1 _ _ _ _ (wpAnyC_of_lex hro hF hs t _ S' a' w' hB' h3)⟩) h
    · rw [if_neg hw] at h ⊢
      exact ⟨fun f _ => hF f, h.1, wpAnyC_of_lex hro hF hs t _ S _ w hB' h.2⟩
end
theorem wpIn_onlyN {F : Fence} {n : Nat} {P : Program} {c : Code} {Q : Exit → Act → World → Prop} {a : Act} {w : World} (h : c.wpIn F n P (OnlyN fun a w => Q .normal a w) a w) : c.wpIn F n P Q a w :=
  wpIn_mono h fun e a w h => by cases e <;> first | exact h | exact (h : False).elim
/-- THE BEGINNING, in a fence that lets every function by. -/
theorem wpIn_region_lexC {F : Fence} {n : Nat} {P : Program} {id : Nat} {Q : Exit → Act → World → Prop} {a : Act} {w : World} {l : List Oper} (ord : List (Bool × Nat)) (S : World → Prop) (hro : F.round = none) (hF : ∀ f, F.fn f) (hm : P.follows .mixedOrders = true) (hB : lexStart l ord = true)
    (h : ∀ R : Act → World → Prop, Hid (∀ a w, Q .normal a w → R a w) → wpLexC F n P l R ord S a w.drew) : (Code.region id l.toArray true).wpIn F n P Q a w := by
  simp only [lexStart, Bool.and_eq_true, decide_eq_true_eq] at hB
  obtain ⟨⟨hs, hl⟩, hB⟩ := hB
  have h1 := wpAnyC_of_lex (md := .any) hro hF hs ord _ S a w.drew hB (h (fun a w => Q .normal a w) (Lib.hid fun _ _ h => h))
  rw [hl] at h1
  refine wpIn_onlyN (wpIn_region_any hm ?_)
  have h2 := wpAnyIn_of_C _ _ _ _ h1
  simp only [List.size_toArray]
  exact h2
end Go.Proofs.YtmlnhjfdhjachaaGreat

/-
  A range over a function whose rounds begin by laying what they are given into a block of their own. No condition.
-/
namespace Go.Proofs.YtmlnhjfdhjachaaGreat
set_option linter.unusedVariables false
open Go.RowKit Go.Shelf

theorem rangeFunc_eff2 {α : Type} {P : Program} {g : Operand} {ps : Array Tmp} {assign body : Code} {Q : Exit → Act → World → Prop} {a : Act} {w : World}
    {gf : Nat} {lb : Array Value} (hg : a.eval g = .func (.func gf) #[] lb) (eg : ∀ args w, (callFunc gf args).run P w = .ok (.enter gf args) w)
    {encs : α → Array Value} (hps : ∀ x, (encs x).size = ps.size)
    (I : List α → World → Prop) (M : List α → α → World → Prop) (E : List α → World → Prop)
    (h0 : I [] ((w.alloc (.deferred (some []))).alloc (.loop { state := .ready, pending := none, fn := 0, tmps := a.tmps, params := ps, assign, body, defers := w.heap.size })))
    (hI0 : ∀ o o', I [] ((w.alloc (.deferred (some []))).alloc o) → I [] ((w.alloc (.deferred (some []))).alloc o'))
    (hI : ∀ pre (W : World) o, I pre W → I pre (W.putObj (w.heap.size + 1) o))
    (hE : ∀ pre (W : World) o, E pre W → E pre (W.putObj (w.heap.size + 1) o))
    (hiter : ∀ (rec : Loop) (W : World), I [] W → Book (w.heap.size + 1) w.heap.size rec W →
      (∀ pre x W1, M pre x W1 → Book (w.heap.size + 1) w.heap.size rec W1 → YieldAt Fence.wide 0 P (w.heap.size + 1) (encs x) W1 fun e W' =>
        e = .returned (.bool true) ∧ I (pre ++ [x]) W' ∧ Book (w.heap.size + 1) w.heap.size rec W') →
      CallsIn Fence.wide 0 P gf (#[.func (.yield (w.heap.size + 1)) #[] #[]] ++ lb) W fun e W' => (∃ v, e = .returned v) ∧ ∃ xs, E xs W' ∧ Book (w.heap.size + 1) w.heap.size rec W')
    (a₁ : α → World → Act) (w₁ : α → World → World) (hw₁ : ∀ x W, Below W.heap.size W (w₁ x W))
    (hassign : ∀ (l : Nat) (x : α) (W : World) (K : Act → World → Prop), K (a₁ x W) (w₁ x W) →
      assign.wpIn (Fence.wide.inRound l) 0 P (Exit.then K (fun _ _ _ => False)) { tmps := (ps.zip (encs x)).foldl (fun t (p, v) => t.setIfInBounds p v) a.tmps, defers := [] } W)
    (hbody : ∀ (pre : List α) (x : α) (W : World) (o : Obj) (rec : Loop), M pre x W → w.heap.size + 1 < W.heap.size → Book (w.heap.size + 1) w.heap.size rec ((w₁ x W).putObj (w.heap.size + 1) o) → body.wpIn (Fence.wide.inRound (w.heap.size + 1)) 0 P (fun e _ W' => match e with
      | .normal => I (pre ++ [x]) W' ∧ Book (w.heap.size + 1) w.heap.size rec W'
      | _ => False) (a₁ x W) ((w₁ x W).putObj (w.heap.size + 1) o))
    (hdone : ∀ (xs : List α) (W : World), E xs W → W.heap[w.heap.size]? = some (.deferred (some [])) → Q .normal { a with defers := { target := .collected w.heap.size, args := #[] } :: a.defers } W) :
    (Code.rangeFunc g ps assign body).wpIn Fence.wide 0 P Q a w := by
  refine wpIn_rangeFunc ?_
  intro fn hfn
  rw [show Fence.wide.round = none from rfl]
  obtain ⟨rec, hrec⟩ : ∃ rec : LoopState → Option Code → Loop, rec = fun st pe => { state := st, pending := pe, fn, tmps := a.tmps, params := ps, assign, body, defers := w.heap.size } := ⟨_, rfl⟩
  obtain ⟨W1, hW1⟩ : ∃ W1, (w.alloc (.deferred (some []))).alloc (.loop (rec .ready none)) = W1 := ⟨_, rfl⟩
  have hL1 : W1.heap[w.heap.size + 1]? = some (.loop (rec .ready none)) := by
    rw [← hW1]; have := World.alloc_heap_new (w.alloc (.deferred (some []))) (.loop (rec .ready none)); rwa [World.size_alloc] at this
  have hK1 : W1.heap[w.heap.size]? = some (.deferred (some [])) := by
    rw [← hW1]; exact (Below.heap_alloc _ _ _ (by simp)).trans (World.alloc_heap_new w _)
  have hI1 : I [] W1 := by rw [← hW1]; exact hI0 _ _ h0
  refine ⟨w.heap.size + 1, [{ target := .collected w.heap.size, args := #[] }], W1, { target := .fn (.func gf) lb, args := #[.func (.yield (w.heap.size + 1)) #[] #[]] }, W1, gf,
    #[.func (.yield (w.heap.size + 1)) #[] #[]] ++ lb, W1, ?_, ?_, ?_, ?_, fun h => by simp [Fence.wide] at h, ?_⟩
  · rw [← hW1, hrec]; exact run_enterLoop_outer _ _ _ _ _
  · simp only [resolve, hg]
    simp [go_sem]
  · intro f' hf'; trivial
  · simp [invoke, go_sem, eg]
  · refine (hiter (rec .ready none) W1 hI1 ⟨hL1, hK1⟩ ?_).mono ?_
    · rintro pre x W hm ⟨hl, hk⟩
      have hlt : w.heap.size + 1 < W.heap.size := (Array.getElem?_eq_some_iff.1 hl).1
      have hy := run_yield (P := P) (args := encs x) hl (by rw [hrec]; exact hps x)
      rw [hrec] at hy
      have hl' := ((hw₁ x W).block _ hlt).trans hl
      have hk' := ((hw₁ x W).block _ (by omega)).trans hk
      have hlt' : w.heap.size + 1 < (w₁ x W).heap.size := Nat.lt_of_lt_of_le hlt (hw₁ x W).size
      refine ⟨fn, _, assign, body, hy, roundIn_of_wpIn hfn (hassign _ x W _ ⟨_, run_beginRound hl' (by rw [hrec]), ?_⟩)⟩
      have hl2 : ((w₁ x W).putObj (w.heap.size + 1) (.loop { rec .ready none with state := .busy })).heap[w.heap.size + 1]? = some (.loop { rec .ready none with state := .busy }) := World.putObj_heap_same hlt'
      have hk2 : ((w₁ x W).putObj (w.heap.size + 1) (.loop { rec .ready none with state := .busy })).heap[w.heap.size]? = some (.deferred (some [])) := (World.putObj_heap_other (by omega)).trans hk'
      refine wpIn_mono (hbody pre x W _ _ hm hlt ⟨hl2, hk2⟩) ?_
      rintro e a3 W3 hp
      cases e with
      | normal =>
        obtain ⟨hi3, hl3, hk3⟩ := hp
        have hr := run_endRound (P := P) none hl3
        refine ⟨_, _, hr, rfl, hI _ _ _ hi3, ?_, (World.putObj_heap_other (by omega)).trans hk3⟩
        rw [World.putObj_heap_same (Array.getElem?_eq_some_iff.1 hl3).1, hrec]
        rfl
      | ret => exact hp.elim
      | exit id => exact hp.elim
      | goto t => exact hp.elim
      | panic ch => exact hp.elim
      | outgrown => exact hp.elim
    · rintro e W2 ⟨⟨v, rfl⟩, xs, he, hl, hk⟩
      exact ⟨none, _, by have := run_endLoop (P := P) hl (by rw [hrec]; simp); rw [hrec] at this; exact this, hdone xs _ (hE _ _ _ he) ((World.putObj_heap_other (by omega)).trans hk)⟩
end Go.Proofs.YtmlnhjfdhjachaaGreat

/-
  Pairs whose keys rise: what a table holds, and the document's row. No condition.
-/
namespace Go.Proofs.YtmlnhjfdhjachaaGreat
set_option linter.unusedVariables false

def ltB (a b : ByteArray) : Bool := Op.bytesLess a.toList b.toList
theorem bl_irr : ∀ l : List UInt8, Op.bytesLess l l = false
  | [] => rfl
  | a :: l => by simp [Op.bytesLess, bl_irr l]
theorem bl_trans : ∀ {a b c : List UInt8}, Op.bytesLess a b = true → Op.bytesLess b c = true → Op.bytesLess a c = true
  | [], b, c, h1, h2 => by
    cases b with
    | nil => simp [Op.bytesLess] at h1
    | cons y b =>
      cases c with
      | nil => simp [Op.bytesLess] at h2
      | cons z c => rfl
  | x :: a, b, c, h1, h2 => by
    cases b with
    | nil => simp [Op.bytesLess] at h1
    | cons y b =>
      cases c with
      | nil => simp [Op.bytesLess] at h2
      | cons z c =>
        simp only [Op.bytesLess, Bool.or_eq_true, decide_eq_true_eq, Bool.and_eq_true, beq_iff_eq] at h1 h2 ⊢
        rcases h1 with h1 | ⟨rfl, h1⟩
        · rcases h2 with h2 | ⟨rfl, h2⟩
          · exact .inl (UInt8.lt_trans h1 h2)
          · exact .inl h1
        · rcases h2 with h2 | ⟨rfl, h2⟩
          · exact .inl h2
          · exact .inr ⟨rfl, bl_trans h1 h2⟩
theorem bl_tot : ∀ {a b : List UInt8}, Op.bytesLess a b = false → Op.bytesLess b a = false → a = b
  | [], b, h1, h2 => by
    cases b with
    | nil => rfl
    | cons y b => simp [Op.bytesLess] at h1
  | x :: a, b, h1, h2 => by
    cases b with
    | nil => simp [Op.bytesLess] at h2
    | cons y b =>
      simp only [Op.bytesLess, Bool.or_eq_false_iff, decide_eq_false_iff_not] at h1 h2
      have e : x = y := UInt8.le_antisymm (UInt8.not_lt.1 h2.1) (UInt8.not_lt.1 h1.1)
      subst e
      simp only [beq_self_eq_true, Bool.true_and] at h1 h2
      rw [bl_tot h1.2 h2.2]
theorem lt_irr (a : ByteArray) : ltB a a = false := bl_irr _
theorem lt_trans {a b c : ByteArray} (h1 : ltB a b = true) (h2 : ltB b c = true) : ltB a c = true := bl_trans h1 h2
theorem lt_tot {a b : ByteArray} (h1 : ltB a b = false) (h2 : ltB b a = false) : a = b := by
  apply Classical.byContradiction
  intro h
  exact txt_ne h (bl_tot h1 h2)
theorem lt_ne {a b : ByteArray} (h : ltB a b = true) : a ≠ b := fun e => by rw [e, lt_irr] at h; cases h
theorem geP_lt (k t : ByteArray) : geP k t = !(ltB t k) := rfl
/-- Pairs whose keys rise. -/
def Rises (m : List (ByteArray × ByteArray)) : Prop := m.Pairwise fun a b => ltB a.1 b.1 = true
theorem rises_nil : Rises [] := List.Pairwise.nil
theorem Rises.tail {p : ByteArray × ByteArray} {m : List (ByteArray × ByteArray)} (h : Rises (p :: m)) : Rises m := (List.pairwise_cons.1 h).2
theorem Rises.head {p : ByteArray × ByteArray} {m : List (ByteArray × ByteArray)} (h : Rises (p :: m)) : ∀ q ∈ m, ltB p.1 q.1 = true := (List.pairwise_cons.1 h).1
theorem putP_done (k v : ByteArray) : ∀ {m : List (ByteArray × ByteArray)}, (∀ q ∈ m, ltB k q.1 = true) → putP (geP k) k v m true = m
  | [], _ => rfl
  | p :: m, h => by
    have h1 := h p (List.mem_cons_self ..)
    show (if true then [] else _) ++ (if p.1 = k then [] else [p]) ++ putP (geP k) k v m (true || geP k p.1) = p :: m
    rw [if_pos rfl, if_neg (fun e => lt_ne h1 e.symm), Bool.true_or, putP_done k v (fun q hq => h q (List.mem_cons_of_mem _ hq))]
    rfl
/-- How many keys are less. -/
def below (m : List (ByteArray × ByteArray)) (k : ByteArray) : Nat := (m.takeWhile fun p => ltB p.1 k).length
/-- Is the key at that place this one? -/
def standing (m : List (ByteArray × ByteArray)) (k : ByteArray) : Bool := match m[below m k]? with
  | some p => decide (p.1 = k)
  | none => false
theorem below_le (m : List (ByteArray × ByteArray)) (k : ByteArray) : below m k ≤ m.length := (List.takeWhile_prefix _).length_le
theorem below_cons (p : ByteArray × ByteArray) (m : List (ByteArray × ByteArray)) (k : ByteArray) : below (p :: m) k = if ltB p.1 k then below m k + 1 else 0 := by
  unfold below
  rw [List.takeWhile_cons]
  cases h : ltB p.1 k <;> simp
theorem below_lt : ∀ (m : List (ByteArray × ByteArray)) (k : ByteArray) (i : Nat) (p : ByteArray × ByteArray), i < below m k → m[i]? = some p → ltB p.1 k = true
  | [], k, i, p, h, hp => by simp at hp
  | q :: m, k, i, p, h, hp => by
    rw [below_cons] at h
    cases hq : ltB q.1 k with
    | false => rw [hq] at h; simp at h
    | true =>
      rw [hq, if_pos rfl] at h
      cases i with
      | zero => simp only [List.getElem?_cons_zero, Option.some.injEq] at hp; rw [← hp]; exact hq
      | succ i => exact below_lt m k i p (by omega) (by simpa using hp)
theorem below_ge : ∀ (m : List (ByteArray × ByteArray)) (k : ByteArray), Rises m → ∀ (i : Nat) (p : ByteArray × ByteArray), below m k ≤ i → m[i]? = some p → ltB p.1 k = false
  | [], k, hr, i, p, h, hp => by simp at hp
  | q :: m, k, hr, i, p, h, hp => by
    rw [below_cons] at h
    cases hq : ltB q.1 k with
    | false =>
      cases i with
      | zero => simp only [List.getElem?_cons_zero, Option.some.injEq] at hp; rw [← hp]; exact hq
      | succ i =>
        have h2 := hr.head p (List.mem_of_getElem? (by simpa using hp))
        cases hk : ltB p.1 k with
        | false => rfl
        | true => rw [lt_trans h2 hk] at hq; cases hq
    | true =>
      rw [hq, if_pos rfl] at h
      cases i with
      | zero => omega
      | succ i => exact below_ge m k hr.tail i p (by omega) (by simpa using hp)
/-- What the program's table does. -/
def setTab (m : List (ByteArray × ByteArray)) (k v : ByteArray) : List (ByteArray × ByteArray) :=
  if standing m k then m.set (below m k) (k, v) else m.take (below m k) ++ (k, v) :: m.drop (below m k)
theorem standing_cons_lt {p : ByteArray × ByteArray} {m : List (ByteArray × ByteArray)} {k : ByteArray} (h : ltB p.1 k = true) : standing (p :: m) k = standing m k := by
  unfold standing
  rw [below_cons, if_pos h, List.getElem?_cons_succ]
theorem standing_cons_ge {p : ByteArray × ByteArray} {m : List (ByteArray × ByteArray)} {k : ByteArray} (h : ltB p.1 k = false) : standing (p :: m) k = decide (p.1 = k) := by
  unfold standing
  rw [below_cons, if_neg (by rw [h]; decide), List.getElem?_cons_zero]
theorem setTab_put (k v : ByteArray) : ∀ {m : List (ByteArray × ByteArray)}, Rises m → setTab m k v = putP (geP k) k v m false
  | [], _ => by simp [setTab, standing, below, putP]
  | p :: m, h => by
    show _ = (if false then [] else if geP k p.1 then [(k, v)] else []) ++ (if p.1 = k then [] else [p]) ++ putP (geP k) k v m (false || geP k p.1)
    rw [geP_lt]
    cases hl : ltB p.1 k with
    | true =>
      have ih := setTab_put k v h.tail
      rw [if_neg (by decide), if_neg (by decide), if_neg (lt_ne hl)]
      simp only [Bool.not_true, Bool.false_or, List.nil_append]
      rw [← ih]
      unfold setTab
      rw [standing_cons_lt hl, below_cons, if_pos hl]
      cases standing m k <;> simp
    | false =>
      rw [if_neg (by decide)]
      simp only [Bool.not_false, Bool.false_or, if_true]
      unfold setTab
      have hb : below (p :: m) k = 0 := by rw [below_cons, if_neg (by rw [hl]; decide)]
      rw [standing_cons_ge hl, hb]
      by_cases e : p.1 = k
      · rw [if_pos e, putP_done k v (fun q hq => by rw [← e]; exact h.head q hq)]
        simp [e]
      · have hlt : ltB k p.1 = true := by
          cases h2 : ltB k p.1 with
          | true => rfl
          | false => exact absurd (lt_tot hl h2) e
        rw [if_neg e, putP_done k v (fun q hq => lt_trans hlt (h.head q hq))]
        simp [e]
theorem mem_put (ge : ByteArray → Bool) (k v : ByteArray) : ∀ {m : List (ByteArray × ByteArray)} {d : Bool} {q : ByteArray × ByteArray}, q ∈ putP ge k v m d → q = (k, v) ∨ q ∈ m
  | [], d, q, h => by
    cases d <;> simp [putP] at h
    exact .inl h
  | p :: m, d, q, h => by
    change q ∈ (if d then [] else if ge p.1 then [(k, v)] else []) ++ (if p.1 = k then [] else [p]) ++ putP ge k v m (d || ge p.1) at h
    rw [List.mem_append, List.mem_append] at h
    rcases h with (h | h) | h
    · split at h
      · cases h
      · split at h
        · exact .inl (by simpa using h)
        · cases h
    · split at h
      · cases h
      · exact .inr (by rw [List.mem_singleton] at h; rw [h]; exact List.mem_cons_self ..)
    · rcases mem_put ge k v h with h | h
      · exact .inl h
      · exact .inr (List.mem_cons_of_mem _ h)
theorem put_rises (k v : ByteArray) : ∀ {m : List (ByteArray × ByteArray)}, Rises m → Rises (putP (geP k) k v m false)
  | [], _ => by simp [putP, Rises]
  | p :: m, h => by
    show Rises ((if false then [] else if geP k p.1 then [(k, v)] else []) ++ (if p.1 = k then [] else [p]) ++ putP (geP k) k v m (false || geP k p.1))
    rw [geP_lt]
    cases hl : ltB p.1 k with
    | true =>
      rw [if_neg (by decide), if_neg (by decide), if_neg (lt_ne hl)]
      simp only [Bool.not_true, Bool.false_or, List.nil_append]
      refine List.pairwise_cons.2 ⟨fun q hq => ?_, put_rises k v h.tail⟩
      rcases mem_put _ _ _ hq with rfl | hq
      · exact hl
      · exact h.head q hq
    | false =>
      rw [if_neg (by decide)]
      simp only [Bool.not_false, Bool.false_or, if_true]
      by_cases e : p.1 = k
      · rw [if_pos e, putP_done k v (fun q hq => by rw [← e]; exact h.head q hq)]
        refine List.pairwise_cons.2 ⟨fun q hq => ?_, h.tail⟩
        rw [← e]; exact h.head q (by simpa using hq)
      · have hlt : ltB k p.1 = true := by
          cases h2 : ltB k p.1 with
          | true => rfl
          | false => exact absurd (lt_tot hl h2) e
        rw [if_neg e, putP_done k v (fun q hq => lt_trans hlt (h.head q hq))]
        refine List.pairwise_cons.2 ⟨fun q hq => ?_, h⟩
        have hq : q ∈ p :: m := by simpa using hq
        rcases List.mem_cons.1 hq with rfl | hq
        · exact hlt
        · exact lt_trans hlt (h.head q hq)
theorem getP_head {m : List (ByteArray × ByteArray)} {k : ByteArray} (h : ∀ q ∈ m, ltB k q.1 = true) : getP m k = (false, ByteArray.empty) := by
  induction m with
  | nil => rfl
  | cons q m ih =>
    show (if q.1 = k then _ else getP m k) = _
    rw [if_neg (fun e => lt_ne (h q (List.mem_cons_self ..)) e.symm)]
    exact ih fun r hr => h r (List.mem_cons_of_mem _ hr)
/-- Rows that rise and have the same pairs are one. -/
theorem rises_ext : ∀ {a b : List (ByteArray × ByteArray)}, Rises a → Rises b → (∀ k, getP a k = getP b k) → a = b
  | [], [], _, _, _ => rfl
  | [], q :: b, _, _, h => by
    have := h q.1
    simp [getP] at this
  | p :: a, [], _, _, h => by
    have := h p.1
    simp [getP] at this
  | p :: a, q :: b, ha, hb, h => by
    have hpq : p.1 = q.1 := by
      apply lt_tot
      · cases hl : ltB p.1 q.1 with
        | false => rfl
        | true =>
          have h1 := h p.1
          rw [show getP (p :: a) p.1 = (true, p.2) from by simp [getP]] at h1
          rw [getP_head (m := q :: b) (fun r hr => by
            rcases List.mem_cons.1 hr with rfl | hr
            · exact hl
            · exact lt_trans hl (hb.head r hr))] at h1
          cases h1
      · cases hl : ltB q.1 p.1 with
        | false => rfl
        | true =>
          have h1 := h q.1
          rw [show getP (q :: b) q.1 = (true, q.2) from by simp [getP]] at h1
          rw [getP_head (m := p :: a) (fun r hr => by
            rcases List.mem_cons.1 hr with rfl | hr
            · exact hl
            · exact lt_trans hl (ha.head r hr))] at h1
          cases h1
    have hv : p.2 = q.2 := by
      have h1 := h p.1
      rw [show getP (p :: a) p.1 = (true, p.2) from by simp [getP], show getP (q :: b) p.1 = (true, q.2) from by simp [getP, hpq]] at h1
      exact (Prod.mk.inj h1).2
    have e : p = q := Prod.ext hpq hv
    subst e
    rw [rises_ext ha.tail hb.tail fun k => ?_]
    by_cases hk : p.1 = k
    · subst hk
      rw [getP_head ha.head, getP_head hb.head]
    · have h1 := h k
      have e1 : ∀ m : List (ByteArray × ByteArray), getP (p :: m) k = getP m k := fun m => by
        show (if p.1 = k then _ else getP m k) = _
        rw [if_neg hk]
      rwa [e1, e1] at h1
/-- Put, one behind the other. -/
def putAll (m l : List (ByteArray × ByteArray)) : List (ByteArray × ByteArray) := l.foldl (fun m p => putP (geP p.1) p.1 p.2 m false) m
theorem putAll_rises : ∀ {l m : List (ByteArray × ByteArray)}, Rises m → Rises (putAll m l)
  | [], _, h => h
  | p :: l, _, h => putAll_rises (l := l) (put_rises p.1 p.2 h)
theorem putAll_get (k : ByteArray) : ∀ {l m : List (ByteArray × ByteArray)}, (l.map (·.1)).Nodup → getP (putAll m l) k = if (getP l k).1 then getP l k else getP m k
  | [], m, _ => by simp [putAll, getP]
  | p :: l, m, hn => by
    rw [List.map_cons, List.nodup_cons] at hn
    show getP (putAll (putP (geP p.1) p.1 p.2 m false) l) k = _
    rw [putAll_get k hn.2, getP_put]
    show _ = if (if p.1 = k then (true, p.2) else getP l k).1 then (if p.1 = k then (true, p.2) else getP l k) else getP m k
    by_cases hk : p.1 = k
    · have h0 : (getP l k).1 = false := by
        cases hg : (getP l k).1 with
        | false => rfl
        | true =>
          exfalso
          apply hn.1
          rw [hk]
          clear hn
          induction l with
          | nil => simp [getP] at hg
          | cons q l ih =>
            change (if q.1 = k then (true, q.2) else getP l k).1 = true at hg
            by_cases hq : q.1 = k
            · rw [List.map_cons, hq]; exact List.mem_cons_self ..
            · rw [if_neg hq] at hg
              exact List.mem_cons_of_mem _ (ih hg)
      rw [h0, if_pos hk]
      simp [hk]
    · have hk2 : ¬ k = p.1 := fun e => hk e.symm
      rw [if_neg hk, if_neg hk2]
theorem getP_in {m : List (ByteArray × ByteArray)} {k : ByteArray} (h : (getP m k).1 = true) : (k, (getP m k).2) ∈ m := by
  induction m with
  | nil => simp [getP] at h
  | cons q m ih =>
    change (if q.1 = k then (true, q.2) else getP m k).1 = true at h
    show (k, (if q.1 = k then (true, q.2) else getP m k).2) ∈ q :: m
    by_cases hq : q.1 = k
    · rw [if_pos hq, ← hq]; exact List.mem_cons_self ..
    · rw [if_neg hq] at h ⊢
      exact List.mem_cons_of_mem _ (ih h)
theorem getP_of {m : List (ByteArray × ByteArray)} {k v : ByteArray} (hn : (m.map (·.1)).Nodup) (h : (k, v) ∈ m) : getP m k = (true, v) := by
  induction m with
  | nil => cases h
  | cons q m ih =>
    rw [List.map_cons, List.nodup_cons] at hn
    show (if q.1 = k then (true, q.2) else getP m k) = _
    rcases List.mem_cons.1 h with rfl | h
    · simp
    · rw [if_neg (fun e => hn.1 (by rw [e]; exact List.mem_map.2 ⟨_, h, rfl⟩))]
      exact ih hn.2 h
theorem getP_perm {a b : List (ByteArray × ByteArray)} (h : a.Perm b) (hn : (a.map (·.1)).Nodup) (k : ByteArray) : getP a k = getP b k := by
  have hb : (b.map (·.1)).Nodup := (h.map _).nodup_iff.1 hn
  cases ha : (getP a k).1 with
  | true =>
    have h1 := getP_in ha
    rw [getP_of hn h1, getP_of hb (h.mem_iff.1 h1)]
  | false =>
    rw [getP_none a k ha]
    cases h2 : (getP b k).1 with
    | false => rw [getP_none b k h2]
    | true =>
      have h1 := getP_in h2
      rw [getP_of hn (h.mem_iff.2 h1)] at ha
      cases ha
/-- In whatever order a map's pairs are put into an empty table, it holds the row that rises. -/
theorem putAll_perm {a b : List (ByteArray × ByteArray)} (h : a.Perm b) (hn : (a.map (·.1)).Nodup) : putAll [] a = putAll [] b :=
  rises_ext (putAll_rises rises_nil) (putAll_rises rises_nil) fun k => by
    rw [putAll_get k hn, putAll_get k ((h.map _).nodup_iff.1 hn), getP_perm h hn k]
end Go.Proofs.YtmlnhjfdhjachaaGreat

/-
  slices.BinarySearch and slices.Insert at a row of texts that the call made. No condition.
-/
namespace Go.Proofs.YtmlnhjfdhjachaaGreat
set_option linter.unusedVariables false
open Go.ChangeShapes Go.WideShapes Go.ChangeAt Go.RowKit
open Go.ChangeMaps (setBlock)

theorem setCells_blk {g : Nat} {t : TypeId} : ∀ (vs : List Value) (o : Nat) {w : World} {cs : Array Value}, Blk w g t cs → ∃ cs', Blk (w.setCells g o vs) g t cs' ∧ cs'.size = cs.size ∧ ∀ j, cs'[j]? = if o ≤ j ∧ j < o + vs.length ∧ j < cs.size then vs[j - o]? else cs[j]?
  | [], o, w, cs, h => ⟨cs, h, rfl, fun j => by rw [if_neg (by simp; omega)]⟩
  | v :: vs, o, w, cs, h => by
    obtain ⟨cs', h1, h2, h3⟩ := setCells_blk vs (o + 1) (h.set_ o v)
    have hsz : (cs.setIfInBounds o v).size = cs.size := by simp
    refine ⟨cs', h1, h2.trans hsz, fun j => ?_⟩
    rw [h3 j, hsz, Array.getElem?_setIfInBounds]
    simp only [List.length_cons]
    by_cases hj : o = j
    · subst hj
      rw [if_neg (by omega), if_pos rfl]
      by_cases hs : o < cs.size
      · rw [if_pos hs, if_pos ⟨Nat.le_refl _, by omega, hs⟩]; simp
      · rw [if_neg hs, if_neg (by omega), Array.getElem?_eq_none (by omega)]
    · by_cases hc : o + 1 ≤ j ∧ j < o + 1 + vs.length ∧ j < cs.size
      · rw [if_pos hc, if_pos (by omega), show j - o = (j - (o + 1)) + 1 by omega, List.getElem?_cons_succ]
      · rw [if_neg hc, if_neg hj, if_neg (by omega)]
theorem Chg.setCells {F : Nat → Prop} {a : World} {g : Nat} (hg : F g ∨ a.heap.size ≤ g) : ∀ (vs : List Value) (o : Nat) {w : World}, Chg F a w → Chg F a (w.setCells g o vs)
  | [], _, _, h => h
  | v :: vs, o, _, h => Chg.setCells hg vs (o + 1) (h.setCell (p := ⟨g, o, none⟩) hg v)
theorem heapsize_setCells (g : Nat) : ∀ (vs : List Value) (o : Nat) (w : World), (w.setCells g o vs).heap.size = w.heap.size
  | [], _, _ => rfl
  | v :: vs, o, w => (heapsize_setCells g vs (o + 1) _).trans (size_setCell w _ _)

/-- A row of texts in the call's own memory. -/
def Strs (w : World) (Q : Nat → Prop) (v : Value) (l : List ByteArray) : Prop :=
  (v = .slice none 0 0 ∧ l = []) ∨ ∃ g cur, v = .slice (some ⟨g, 0, none⟩) l.length cur.size ∧ Q g ∧ Blk w g 9 cur ∧ l.length ≤ cur.size ∧ cur.size ≤ maxLen ∧ ∀ j, j < l.length → cur[j]? = (l[j]?).map Value.string
theorem Strs.keep {w w' : World} {Q : Nat → Prop} {v : Value} {l : List ByteArray} (h : Strs w Q v l) (hk : ∀ g, Q g → w'.heap[g]? = w.heap[g]?) : Strs w' Q v l := by
  rcases h with h | ⟨g, cur, h1, h2, h3, h4⟩
  · exact .inl h
  · exact .inr ⟨g, cur, h1, h2, h3.keep (hk g h2), h4⟩
theorem Strs.mono {w : World} {Q Q' : Nat → Prop} {v : Value} {l : List ByteArray} (h : Strs w Q v l) (hq : ∀ g, Q g → g < w.heap.size → Q' g) : Strs w Q' v l := by
  rcases h with h | ⟨g, cur, h1, h2, h3, h4⟩
  · exact .inl h
  · exact .inr ⟨g, cur, h1, hq g h2 h3.lt, h3, h4⟩
theorem ins_get (l : List ByteArray) (x : ByteArray) (i : Nat) (hi : i ≤ l.length) (j : Nat) : (l.take i ++ x :: l.drop i)[j]? = if j < i then l[j]? else if j = i then some x else l[j - 1]? := by
  have hl : (l.take i).length = i := by rw [List.length_take]; omega
  by_cases h1 : j < i
  · rw [if_pos h1, List.getElem?_append_left (by omega), List.getElem?_take, if_pos h1]
  · rw [if_neg h1, List.getElem?_append_right (by omega), hl]
    by_cases h2 : j = i
    · subst h2; simp
    · rw [if_neg h2, show j - i = (j - i - 1) + 1 by omega, List.getElem?_cons_succ, List.getElem?_drop]
      congr 1
      omega
theorem ins_len (l : List ByteArray) (x : ByteArray) (i : Nat) (hi : i ≤ l.length) : (l.take i ++ x :: l.drop i).length = l.length + 1 := by
  rw [List.length_append, List.length_take, List.length_cons, List.length_drop]; omega
theorem strs_one (l : List ByteArray) : ∀ v ∈ l.map Value.string, v.oneCell' = true := fun v hv => by
  obtain ⟨t, _, rfl⟩ := List.mem_map.1 hv
  rfl
def Inserted (w : World) (Q : Nat → Prop) (l : List ByteArray) (i : Nat) (x : ByteArray) (e : Ending) (w' : World) : Prop :=
  ∃ v', e = .returned v' ∧ Strs w' (nw Q w w') v' (l.take i ++ x :: l.drop i) ∧ Chg Q w w'
set_option maxHeartbeats 2000000 in
theorem insert_any {w : World} {Q : Nat → Prop} {v : Value} {l : List ByteArray} {x : ByteArray} {i vb : Nat} (h : Strs w Q v l) (hi : i ≤ l.length) (hl : l.length ≤ 1000) (hv : Blk w vb 9 #[.string x]) (hq : ¬ Q vb) :
    Calls Tryz.prog 109 #[v, .int .i64 (i : Nat), .slice (some ⟨vb, 0, none⟩) 1 1] w (Inserted w Q l i x) := by
  have hone : ∀ u ∈ [Value.string x], u.oneCell' = true := fun u hu => by rw [List.mem_singleton] at hu; rw [hu]; rfl
  have hvs : ∀ j u, [Value.string x][j]? = some u → w.cell? ⟨vb, 0 + j, none⟩ = some u := fun j u hj => by
    cases j with
    | zero => simp only [List.getElem?_cons_zero, Option.some.injEq] at hj; rw [Nat.add_zero, hv.cell 0, ← hj]; rfl
    | succ j => simp at hj
  have grown : ∀ (w' : World) (g : Nat) (cur : Array Value), w'.heap.size = w.heap.size + 1 → g = w.heap.size → Blk w' g 9 cur → l.length + 1 ≤ cur.size → cur.size ≤ maxLen → (∀ j, j < l.length + 1 → cur[j]? = ((l.take i ++ x :: l.drop i)[j]?).map Value.string) → Strs w' (nw Q w w') (.slice (some ⟨g, 0, none⟩) (l.length + 1) cur.size) (l.take i ++ x :: l.drop i) :=
    fun w' g cur e1 e2 hb h1 h2 h3 => by
      refine .inr ⟨g, cur, by rw [ins_len l x i hi], .inr ⟨by omega, by omega⟩, hb, by rw [ins_len l x i hi]; exact h1, h2, fun j hj => h3 j (by rwa [ins_len l x i hi] at hj)⟩
  rcases h with ⟨rfl, rfl⟩ | ⟨g, cur, rfl, hg, hb, hn, hc, hcs⟩
  · have hi0 : i = 0 := by simpa using hi
    subst hi0
    have hz := grownCap_ge w 1 0 9
    have hz2 := grownCap_le_maxLen w 1 0 9 (by decide)
    refine (Any2.slices_Insert_string_end_grow Tryz.insert none 0 0 vb 0 1 1 [] [.string x] w (by decide) (by decide) (by decide) (by decide) rfl rfl (fun _ => rfl) (fun a h => by cases h) hvs hone).mono ?_
    rintro e w' ⟨rfl, rfl⟩
    refine ⟨_, rfl, ?_, (Chg.refl Q w).drew.alloc _⟩
    have hsz : (([] ++ [Value.string x] : List Value).toArray ++ Builtin.zeroCells (Value.string ⟨#[]⟩).cells (grownCap w (0 + 1) 0 9 - (0 + 1))).size = grownCap w 1 0 9 := by
      rw [Array.size_append, size_zeroCells]
      show 1 + (grownCap w (0 + 1) 0 9 - (0 + 1)) * 1 = _
      rw [Nat.zero_add, Nat.mul_one]
      omega
    have := grown _ w.heap.size _ (by simp) rfl (Blk.new w.drew 9 (([] ++ [Value.string x] : List Value).toArray ++ Builtin.zeroCells (Value.string ⟨#[]⟩).cells (grownCap w (0 + 1) 0 9 - (0 + 1)))) (by rw [hsz]; exact hz) (by rw [hsz]; exact hz2) (fun j hj => by
      have : j = 0 := by simpa using hj
      subst this
      rw [Array.getElem?_append_left (by simp)]
      rfl)
    rw [hsz] at this
    exact this
  · have hcl : (l.map Value.string).length = l.length := by simp
    have hlen : (l.map Value.string).length ≤ 1000 := by omega
    have hcc : ∀ j u, (l.map Value.string)[j]? = some u → w.cell? ⟨g, 0 + j, none⟩ = some u := fun j u hj => by
      have hjl : j < l.length := by have := (List.getElem?_eq_some_iff.1 hj).1; omega
      rw [Nat.zero_add, hb.cell j, hcs j hjl, ← List.getElem?_map]
      exact hj
    have hne : vb ≠ g := fun e => hq (by rw [e]; exact hg)
    by_cases hroom : l.length + 1 ≤ cur.size
    · by_cases hend : i < l.length
      · have hsp : ∀ j, j < l.length + 1 → (w.cell? ⟨g, 0 + j, none⟩).isSome = true := fun j hj => by
          rw [Nat.zero_add, hb.cell j, Array.getElem?_eq_getElem (by omega)]; rfl
        refine (Any2.slices_Insert_string_shift Tryz.insert g 0 l.length cur.size i vb 0 1 1 (l.map .string) [.string x] w hend (by decide) hroom (by unfold maxLen at hc; omega) hne hcl rfl hcc hsp (fun j _ => hb.frozen _) hvs (strs_one l) hone 9 9 1 cur.size (by unfold World.shape?; rw [show w.heap[vb]? = _ from hv]; rfl) (by unfold World.shape?; rw [show w.heap[g]? = _ from hb]) (by omega) (hv.frozen _) (hv.frozen _)).mono ?_
        rintro e w' ⟨rfl, rfl⟩
        obtain ⟨c1, b1, s1, g1⟩ := setCells_blk ((l.map Value.string).drop i) (0 + (i + 1)) hb.drew
        obtain ⟨c2, b2, s2, g2⟩ := setCells_blk [Value.string x] (0 + i) b1
        have hw : ((w.drew.setCells g (0 + (i + 1)) ((l.map Value.string).drop i)).setCells g (0 + i) [Value.string x]).heap.size = w.heap.size := by rw [heapsize_setCells, heapsize_setCells]; rfl
        have hcz : c2.size = cur.size := s2.trans s1
        refine ⟨_, rfl, .inr ⟨g, c2, by rw [ins_len l x i hi, hcz], .inl hg, b2, by rw [ins_len l x i hi, hcz]; exact hroom, by rw [hcz]; exact hc, fun j hj => ?_⟩, Chg.setCells (.inl hg) _ _ (Chg.setCells (.inl hg) _ _ (Chg.refl Q w).drew)⟩
        rw [ins_len l x i hi] at hj
        rw [g2 j, g1 j, s1, ins_get l x i hi j, List.length_drop, hcl]
        simp only [List.length_cons, List.length_nil]
        by_cases h1 : j < i
        · rw [if_neg (by omega), if_neg (by omega), if_pos h1]
          exact hcs j (by omega)
        · rw [if_neg h1]
          by_cases h2 : j = i
          · subst h2
            rw [if_pos (by omega), if_pos rfl]
            simp
          · rw [if_neg (by omega), if_pos (by omega), if_neg h2, List.getElem?_drop, List.getElem?_map]
            congr 2
            omega
      · have hi' : i = l.length := by omega
        subst hi'
        refine (Any2.slices_Insert_string_end_room Tryz.insert g 0 l.length cur.size vb 0 1 1 [.string x] w (by decide) hroom (by unfold maxLen at hc; omega) rfl (fun j hj => by rw [hb.cell _, Array.getElem?_eq_getElem (by omega)]; rfl) (fun j _ => hb.frozen _) hvs hone).mono ?_
        rintro e w' ⟨rfl, rfl⟩
        obtain ⟨c2, b2, s2, g2⟩ := setCells_blk [Value.string x] (0 + l.length) hb
        refine ⟨_, rfl, .inr ⟨g, c2, by rw [ins_len l x _ hi, s2], .inl hg, b2, by rw [ins_len l x _ hi, s2]; exact hroom, by rw [s2]; exact hc, fun j hj => ?_⟩, Chg.setCells (.inl hg) _ _ (Chg.refl Q w)⟩
        rw [ins_len l x _ hi] at hj
        rw [g2 j, ins_get l x _ hi j]
        simp only [List.length_cons, List.length_nil]
        by_cases h1 : j < l.length
        · rw [if_neg (by omega), if_pos h1]
          exact hcs j h1
        · have h2 : j = l.length := by omega
          subst h2
          rw [if_pos (by omega), if_neg h1, if_pos rfl]
          simp
    · have hz := grownCap_ge w (l.length + 1) cur.size 9
      have hz2 := grownCap_le_maxLen w (l.length + 1) cur.size 9 (by unfold maxLen; omega)
      by_cases hend : i < l.length
      · refine (Any2.slices_Insert_string_grow Tryz.insert g 0 l.length cur.size i vb 0 1 1 (l.map .string) [.string x] w hend (by decide) hn (by omega) (by omega) hcl rfl hcc hvs (strs_one l) hone).mono ?_
        rintro e w' ⟨rfl, rfl⟩
        generalize hcell : ((l.map Value.string).take i).toArray ++ Builtin.zeroCells (Value.string ⟨#[]⟩).cells (l.length + 1 - i) ++ Builtin.zeroCells (Value.string ⟨#[]⟩).cells (grownCap w (l.length + 1) cur.size (Tryz.insert_ren.t 9) - (l.length + 1)) = cz
        have hsz : cz.size = grownCap w (l.length + 1) cur.size 9 := by
          rw [← hcell, Array.size_append, Array.size_append, size_zeroCells, size_zeroCells]
          show ((l.map Value.string).take i).toArray.size + (l.length + 1 - i) * 1 + (grownCap w (l.length + 1) cur.size 9 - (l.length + 1)) * 1 = _
          rw [List.size_toArray, List.length_take, hcl]
          omega
        have hget : ∀ j, j < i → cz[j]? = (l[j]?).map Value.string := fun j hj => by
          rw [← hcell, Array.getElem?_append_left (by rw [Array.size_append, List.size_toArray, List.length_take, hcl]; omega), Array.getElem?_append_left (by rw [List.size_toArray, List.length_take, hcl]; omega)]
          rw [List.getElem?_toArray, List.getElem?_take, if_pos hj, List.getElem?_map]
        have hb0 : Blk (w.alloc (.cells cz 9)) w.heap.size 9 cz := Blk.new w 9 cz
        obtain ⟨c1, b1, s1, g1⟩ := setCells_blk [Value.string x] i hb0.drew
        obtain ⟨c2, b2, s2, g2⟩ := setCells_blk ((l.map Value.string).drop i) (i + 1) b1.drew
        have hcz : c2.size = grownCap w (l.length + 1) cur.size 9 := (s2.trans s1).trans hsz
        refine ⟨_, rfl, ?_, Chg.setCells (.inr (Nat.le_refl _)) _ _ (Chg.drew (Chg.setCells (.inr (Nat.le_refl _)) _ _ (Chg.drew ((Chg.refl Q w).alloc _))))⟩
        have := grown _ w.heap.size c2 (by rw [heapsize_setCells]; show (World.setCells _ _ _ _).heap.size = _; rw [heapsize_setCells]; simp) rfl b2 (by rw [hcz]; exact hz) (by rw [hcz]; exact hz2) (fun j hj => by
          rw [g2 j, g1 j, s1, ins_get l x i hi j, List.length_drop, hcl]
          simp only [List.length_cons, List.length_nil]
          by_cases h1 : j < i
          · rw [if_neg (by omega), if_neg (by omega), if_pos h1]
            exact hget j h1
          · rw [if_neg h1]
            by_cases h2 : j = i
            · subst h2
              rw [if_neg (by omega), if_pos (by omega), if_pos rfl]
              simp
            · rw [if_pos (by omega), if_neg h2, List.getElem?_drop, List.getElem?_map]
              congr 2
              omega)
        rw [hcz] at this
        exact this
      · have hi' : i = l.length := by omega
        subst hi'
        refine (Any2.slices_Insert_string_end_grow Tryz.insert (some ⟨g, 0, none⟩) l.length cur.size vb 0 1 1 (l.map .string) [.string x] w (by decide) hn (by omega) (by omega) hcl rfl (fun h => by cases h) (fun a ha j u hj => by injection ha with ha; subst ha; rw [Addr.add_lit]; exact hcc j u hj) hvs hone).mono ?_
        rintro e w' ⟨rfl, rfl⟩
        refine ⟨_, rfl, ?_, (Chg.refl Q w).drew.alloc _⟩
        generalize hcell : (l.map Value.string ++ [Value.string x]).toArray ++ Builtin.zeroCells (Value.string ⟨#[]⟩).cells (grownCap w (l.length + 1) cur.size (Tryz.insert_ren.t 9) - (l.length + 1)) = cz
        have hsz : cz.size = grownCap w (l.length + 1) cur.size 9 := by
          rw [← hcell, Array.size_append, size_zeroCells]
          show (l.map Value.string ++ [Value.string x]).toArray.size + (grownCap w (l.length + 1) cur.size 9 - (l.length + 1)) * 1 = _
          rw [List.size_toArray, List.length_append, hcl, List.length_singleton]
          omega
        have := grown _ w.heap.size cz (by simp) rfl (Blk.new w.drew 9 cz) (by rw [hsz]; exact hz) (by rw [hsz]; exact hz2) (fun j hj => by
          rw [← hcell, Array.getElem?_append_left (by rw [List.size_toArray, List.length_append, hcl, List.length_singleton]; omega), List.getElem?_toArray, ins_get l x _ hi j]
          by_cases h1 : j < l.length
          · rw [if_pos h1, List.getElem?_append_left (by omega), List.getElem?_map]
          · have h2 : j = l.length := by omega
            subst h2
            rw [if_neg h1, if_pos rfl, List.getElem?_append_right (by omega), hcl]
            simp)
        rw [hsz] at this
        exact this
/-- The key at a place, or the one that is looked for. -/
def keyAt (m : List (ByteArray × ByteArray)) (x : ByteArray) (t : Nat) : ByteArray := match m[t]? with
  | some p => p.1
  | none => x
theorem bs_below (m : List (ByteArray × ByteArray)) (x : ByteArray) (h : Rises m) : Lib.bsGo (fun t => Op.bytesLess (keyAt m x t).toList x.toList) m.length 0 m.length = below m x := by
  refine Lib.bsGo_spec _ (below m x) (fun t ht => ?_) (fun t ht => ?_) _ _ _ (by omega) (Nat.zero_le _) (below_le m x)
  · have hl : t < m.length := Nat.lt_of_lt_of_le ht (below_le m x)
    have := below_lt m x t m[t] ht (List.getElem?_eq_getElem hl)
    show Op.bytesLess (keyAt m x t).toList x.toList = true
    unfold keyAt
    rw [List.getElem?_eq_getElem hl]
    exact this
  · show Op.bytesLess (keyAt m x t).toList x.toList = false
    unfold keyAt
    cases hp : m[t]? with
    | none => exact bl_irr _
    | some p => exact below_ge m x h t p ht hp
theorem stand_at (m : List (ByteArray × ByteArray)) (x : ByteArray) : decide (below m x < m.length ∧ keyAt m x (below m x) = x) = standing m x := by
  unfold standing keyAt
  cases hp : m[below m x]? with
  | none =>
    have := List.getElem?_eq_none_iff.1 hp
    simp; omega
  | some p =>
    have := (List.getElem?_eq_some_iff.1 hp).1
    simp [this]
theorem search_any {w : World} {Q : Nat → Prop} {v : Value} {m : List (ByteArray × ByteArray)} (h : Strs w Q v (m.map (·.1))) (hr : Rises m) (hl : m.length ≤ 1000) (x : ByteArray) :
    Calls Tryz.prog 108 #[v, .string x] w fun e w' => e = .returned (.tuple #[.int .i64 (below m x : Nat), .bool (standing m x)]) ∧ ∃ q, w' = w.drewN q := by
  rcases h with ⟨rfl, hm⟩ | ⟨g, cur, rfl, _, hb, hn, _, hcs⟩
  · have hm0 : m = [] := by simpa using hm
    subst hm0
    refine (Any2.slices_BinarySearch_string_empty Tryz.search none 0 x w).mono ?_
    rintro e w' ⟨rfl, h⟩
    exact ⟨rfl, 0, h⟩
  · rw [List.length_map] at hn ⊢
    refine (Any2.slices_BinarySearch_string Tryz.search g 0 m.length cur.size (keyAt m x) x w (by omega) (fun j hj => ?_)).mono ?_
    · have := hcs j (by rw [List.length_map]; exact hj)
      rw [Nat.zero_add, hb.cell j, this]
      unfold keyAt
      rw [List.getElem?_map, List.getElem?_eq_getElem hj]
      rfl
    · rintro e w' ⟨rfl, q⟩
      rw [bs_below m x hr, stand_at m x]
      exact ⟨rfl, q⟩
end Go.Proofs.YtmlnhjfdhjachaaGreat

/-
  The table (layer 6): New, Put, and its keys handed out. No condition.
-/
namespace Go.Proofs.YtmlnhjfdhjachaaGreat
set_option linter.unusedVariables false
open Go.ChangeShapes Go.WideShapes Go.ChangeAt Go.RowKit Go.Shelf
open Go.ChangeMaps (setBlock)

/-- A table in the call's own memory. -/
structure TabIn (w : World) (Q : Nat → Prop) (t : Nat) (m : List (ByteArray × ByteArray)) : Prop where
  ex : ∃ kv vv Qk Qv, Blk w t 197 #[kv, vv] ∧ Strs w Qk kv (m.map (·.1)) ∧ Strs w Qv vv (m.map (·.2)) ∧ (∀ k, Qk k → Qv k → False) ∧ ¬ Qk t ∧ ¬ Qv t ∧ (∀ k, Qk k ∨ Qv k ∨ k = t → Q k) ∧ In Q w
theorem tabNew_any (w : World) : Calls Tryz.prog 85 #[] w fun e w' => e = .returned (.pointer (some ⟨w.heap.size, 0, none⟩)) ∧ TabIn w' (fun k => k = w.heap.size) w.heap.size [] ∧ Below w.heap.size w w' ∧ w'.heap.size = w.heap.size + 1 := by
  go_enter Tryz.func85, Tryz.ntmps85
  go_wp2_with fail
  go_ret
  refine ⟨rfl, ⟨.slice none 0 0, .slice none 0 0, fun _ => False, fun _ => False, Blk.new w 197 _, .inl ⟨rfl, rfl⟩, .inl ⟨rfl, rfl⟩, fun _ h => h.elim, fun h => h, fun h => h, fun k h => ?_, fun k h => ?_⟩, (Below.refl _ _).alloc (Nat.le_refl _) _, by simp⟩
  · rcases h with h | h | h
    · exact h.elim
    · exact h.elim
    · exact h
  · subst h; simp
theorem strs_slice {w : World} {Q : Nat → Prop} {v : Value} {l : List ByteArray} (h : Strs w Q v l) : ∃ A n c, v = .slice A n c := by
  rcases h with ⟨rfl, _⟩ | ⟨g, cur, rfl, _⟩
  · exact ⟨_, _, _, rfl⟩
  · exact ⟨_, _, _, rfl⟩
theorem set_fst {m : List (ByteArray × ByteArray)} {k v : ByteArray} (h : standing m k = true) : (m.set (below m k) (k, v)).map (·.1) = m.map (·.1) := by
  unfold standing at h
  cases hp : m[below m k]? with
  | none => rw [hp] at h; cases h
  | some p =>
    rw [hp] at h
    have hk : p.1 = k := by simpa using h
    rw [List.map_set]
    apply List.ext_getElem?
    intro j
    rw [List.getElem?_set, List.getElem?_map]
    by_cases hj : below m k = j
    · subst hj
      rw [if_pos rfl, hp]
      have hl := (List.getElem?_eq_some_iff.1 hp).1
      simp [hl, hk]
    · rw [if_neg hj]
theorem stand_lt {m : List (ByteArray × ByteArray)} {k : ByteArray} (h : standing m k = true) : below m k < m.length := by
  unfold standing at h
  cases hp : m[below m k]? with
  | none => rw [hp] at h; cases h
  | some p => exact (List.getElem?_eq_some_iff.1 hp).1
set_option maxRecDepth 100000 in
set_option maxHeartbeats 4000000 in
theorem tabPut_any {w : World} {Q : Nat → Prop} {t : Nat} {m : List (ByteArray × ByteArray)} (h : TabIn w Q t m) (hr : Rises m) (hl : m.length ≤ 999) (k v : ByteArray) :
    Calls Tryz.prog 86 #[.pointer (some ⟨t, 0, none⟩), .string k, .string v] w fun e w' => e = .returned (.tuple #[]) ∧ TabIn w' (nw Q w w') t (setTab m k v) ∧ Chg Q w w' := by
  obtain ⟨kv, vv, Qk, Qv, hB, hK, hV, hoff, hkt, hvt, hQ, hIn⟩ := h.ex
  have hS := search_any hK hr (by omega) k
  have c0 := hB.cell 0
  have c1 := hB.cell 1
  have hlt := hB.lt
  cases hs : standing m k with
  | true =>
    rw [hs] at hS
    have hbl := stand_lt hs
    have hfs := set_fst (v := v) hs
    rcases hV with ⟨_, hm⟩ | ⟨g, cur, rfl, hg, hb, hn, hc, hcs⟩
    · have : m = [] := by simpa using hm
      rw [this] at hbl; simp at hbl
    rw [List.length_map] at hn hcs
    have hgt : ¬ g = t := fun e => hvt (e ▸ hg)
    have hne2 : ¬ t = g := fun e => hgt e.symm
    have hlm : (m.map (·.2)).length = m.length := by simp
    rw [hlm] at c1 hB
    have hst : setTab m k v = m.set (below m k) (k, v) := by unfold setTab; rw [if_pos hs]
    rw [hst]
    generalize hbe : below m k = i at *
    generalize hN : m.length = n at *
    have i1 : (0 : Int) ≤ (i : Int) := by omega
    have i2 : (i : Int) < (n : Int) := by omega
    have cg0 : ∃ u, cur[i]? = some u := ⟨cur[i]'(by omega), Array.getElem?_eq_getElem _⟩
    obtain ⟨u, hu⟩ := cg0
    have cg : w.cell? ⟨g, i, none⟩ = some u := by rw [hb.cell i, hu]
    have fg := hb.frozen i
    have hfin : ∀ q, TabIn ((w.drewN q).setCell ⟨g, i, none⟩ (.string v)) (nw Q w ((w.drewN q).setCell ⟨g, i, none⟩ (.string v))) t (m.set i (k, v)) ∧ Chg Q w ((w.drewN q).setCell ⟨g, i, none⟩ (.string v)) := fun q => by
      have hQg : Q g := hQ g (.inr (.inl hg))
      have hke : ∀ j, j ≠ g → ((w.drewN q).setCell ⟨g, i, none⟩ (.string v)).heap[j]? = w.heap[j]? := fun j hj => Below.heap_setCell _ _ _ _ hj
      refine ⟨⟨kv, .slice (some ⟨g, 0, none⟩) n cur.size, Qk, Qv, hB.keep (hke t hne2), ?_, .inr ⟨g, cur.setIfInBounds i (.string v), by simp [hN], hg, (hb.drewN q).set_ i _, by simp; omega, by simpa using hc, fun j hj => ?_⟩, hoff, hkt, hvt, fun j hj => .inl (hQ j hj), fun j hj => ?_⟩, ((Chg.refl Q w).drewN q).setCell (p := ⟨g, i, none⟩) (.inl hQg) _⟩
      · rw [hfs]
        exact hK.keep fun j hj => hke j fun e => hoff j hj (e ▸ hg)
      · have hj' : j < n := by simpa [hN] using hj
        rw [Array.getElem?_setIfInBounds, List.map_set, List.getElem?_set]
        by_cases hij : i = j
        · subst hij
          rw [if_pos rfl, if_pos (by omega), if_pos rfl, if_pos (by rw [hlm]; omega)]
          rfl
        · rw [if_neg hij, if_neg hij]
          exact hcs j hj'
      · rcases hj with hj | hj
        · exact Nat.lt_of_lt_of_le (hIn j hj) (by rw [size_setCell]; exact Nat.le_refl _)
        · exact hj.2
    clear hb hcs hc hfs hst hK hQ hoff hB hr
    replace hfin := Lib.hid hfin
    replace hS := Lib.hid hS
    replace hbe := Lib.hid hbe
    replace hN := Lib.hid hN
    replace hu := Lib.hid hu
    replace hlm := Lib.hid hlm
    replace hs := Lib.hid hs
    go_enter Tryz.func86, Tryz.ntmps86
    go_wp2_with fail
    refine (hS.out).mono ?_; rintro e w1 ⟨rfl, q, rfl⟩
    go_wp2_with fail
    have hf := hfin.out q
    first | exact bodyPost_end (v := .tuple #[]) (results_none (by kernel_rfl) _ _ _) rfl ⟨rfl, hf⟩ | exact bodyPost_ret (v := .tuple #[]) (results_none (by kernel_rfl) _ _ _) rfl ⟨rfl, hf⟩
  | false =>
    rw [hs] at hS
    have hst : setTab m k v = m.take (below m k) ++ (k, v) :: m.drop (below m k) := by unfold setTab; rw [hs]; rfl
    have hbl := below_le m k
    generalize hbe : below m k = i at *
    rw [hst]
    have f0 := hB.frozen 0
    have f1 := hB.frozen 1
    replace hS := Lib.hid hS
    replace hbe := Lib.hid hbe
    replace hs := Lib.hid hs
    replace hB := Lib.hid hB
    replace hK := Lib.hid hK
    replace hV := Lib.hid hV
    replace hst := Lib.hid hst
    replace hr := Lib.hid hr
    go_enter Tryz.func86, Tryz.ntmps86
    go_wp2_with fail
    refine (hS.out).mono ?_; rintro e w1 ⟨rfl, q, rfl⟩
    have hlt1 : t < (w.drewN q).heap.size := hlt
    go_wp2_with fail
    have A1 := insert_any (w := (w.drewN q).alloc (.cells #[.string k] 9)) (Q := Qk) (x := k) (i := i) (vb := (w.drewN q).heap.size) (hK.out.keep fun g hg => Below.heap_alloc _ _ _ (hIn g (hQ g (.inl hg)))) (by rw [List.length_map]; exact hbl) (by rw [List.length_map]; omega) (Blk.new _ _ _) (fun hq => Nat.lt_irrefl _ (hIn _ (hQ _ (.inl hq))))
    refine A1.mono ?_; rintro e w2 ⟨kv2, rfl, hK2, hC2⟩
    obtain ⟨kA, kn, kc, rfl⟩ := strs_slice hK2
    have hs2 := hC2.size
    have hB2 : Blk w2 t 197 #[kv, vv] := (hB.out.drewN q |>.alloc (.cells #[.string k] 9)).keep (hC2.block t (by rw [World.size_alloc]; omega) hkt)
    have hB3 : Blk (w2.setCell ⟨t, 0, none⟩ (.slice kA kn kc)) t 197 #[(.slice kA kn kc), vv] := Blk.eq_cs (hB2.set_ 0 _) rfl
    have d0 := hB2.cell 0
    have d1 := hB2.cell 1
    have g0 := hB2.frozen 0
    have hlt2 := hB2.lt
    have hV2 : Strs (w2.setCell ⟨t, 0, none⟩ (.slice kA kn kc)) Qv vv (m.map (·.2)) := hV.out.keep fun g hg => by
      have hgl : g < w.heap.size := hIn g (hQ g (.inr (.inl hg)))
      have hgt : g ≠ t := fun e => hvt (e ▸ hg)
      rw [Below.heap_setCell _ _ _ _ hgt]
      rw [hC2.block g (by rw [World.size_alloc]; exact Nat.lt_succ_of_lt hgl) (fun hk => hoff g hk hg)]
      exact Below.heap_alloc _ _ _ hgl
    have hsz2 : w.heap.size + 1 ≤ w2.heap.size := by have := hs2; rw [World.size_alloc] at this; exact this
    have hK3 : Strs (w2.setCell ⟨t, 0, none⟩ (.slice kA kn kc)) (fun g => Qk g ∨ (w.heap.size + 1 ≤ g ∧ g < w2.heap.size)) (.slice kA kn kc) ((m.map (·.1)).take i ++ k :: (m.map (·.1)).drop i) := by
      refine (hK2.mono (Q' := fun g => Qk g ∨ (w.heap.size + 1 ≤ g ∧ g < w2.heap.size)) fun g hg _ => ?_).keep fun g hg => Below.heap_setCell _ _ _ _ ?_
      · rcases hg with hg | hg
        · exact .inl hg
        · exact .inr ⟨by have := hg.1; rw [World.size_alloc] at this; exact this, hg.2⟩
      · intro e
        have e : g = t := e
        rcases hg with hg | hg
        · exact hkt (e ▸ hg)
        · omega
    have hC3 : Chg Q w (w2.setCell ⟨t, 0, none⟩ (.slice kA kn kc)) := Chg.setCell (p := ⟨t, 0, none⟩) ((((Chg.refl Q w).drewN q).alloc _).trans (hC2.mono fun g hg => hQ g (.inl hg)) fun g hg => .inl hg) (.inl (hQ t (.inr (.inr rfl)))) _
    replace hK2 := Lib.hid hK2
    replace hC2 := Lib.hid hC2
    replace hB2 := Lib.hid hB2
    clear A1
    go_wp2_with fail
    obtain ⟨w3, hw3⟩ : ∃ w3, w2.setCell ⟨t, 0, none⟩ (.slice kA kn kc) = w3 := ⟨_, rfl⟩
    rw [hw3] at hB3 hV2 hK3 hC3 ⊢
    have hsz3 : w3.heap.size = w2.heap.size := by rw [← hw3, size_setCell]
    replace hw3 := Lib.hid hw3
    clear c0 c1 d0 d1 g0 f0 f1
    have A2 := insert_any (w := w3.alloc (.cells #[.string v] 9)) (Q := Qv) (x := v) (i := i) (vb := w2.heap.size) (hV2.keep fun g hg => Below.heap_alloc _ _ _ (by have := hIn g (hQ g (.inr (.inl hg))); omega)) (by rw [List.length_map]; exact hbl) (by rw [List.length_map]; omega) (by have h := Blk.new w3 9 #[.string v]; rw [hsz3] at h; exact h) (fun hq => by have := hIn _ (hQ _ (.inr (.inl hq))); omega)
    refine A2.mono ?_; rintro e w4 ⟨vv4, rfl, hV4, hC4⟩
    obtain ⟨vA, vn, vc, rfl⟩ := strs_slice hV4
    have hs4 := hC4.size
    rw [World.size_alloc] at hs4
    have hB4 : Blk w4 t 197 #[(.slice kA kn kc), vv] := (hB3.alloc (.cells #[.string v] 9)).keep (hC4.block t (by rw [World.size_alloc]; omega) hvt)
    have d1 := hB4.cell 1
    have g1 := hB4.frozen 1
    have hlt4 := hB4.lt
    have hB5 : Blk (w4.setCell ⟨t, 1, none⟩ (.slice vA vn vc)) t 197 #[(.slice kA kn kc), (.slice vA vn vc)] := Blk.eq_cs (hB4.set_ 1 _) rfl
    have hfin : TabIn (w4.setCell ⟨t, 1, none⟩ (.slice vA vn vc)) (nw Q w (w4.setCell ⟨t, 1, none⟩ (.slice vA vn vc))) t (m.take i ++ (k, v) :: m.drop i) ∧ Chg Q w (w4.setCell ⟨t, 1, none⟩ (.slice vA vn vc)) := by
      refine ⟨⟨(.slice kA kn kc), (.slice vA vn vc), fun g => Qk g ∨ (w.heap.size + 1 ≤ g ∧ g < w2.heap.size), fun g => Qv g ∨ (w3.heap.size + 1 ≤ g ∧ g < w4.heap.size), hB5, ?_, ?_, ?_, ?_, ?_, ?_, ?_⟩, ?_⟩
      · rw [List.map_append, List.map_cons, List.map_take, List.map_drop]
        refine hK3.keep fun g hg => ?_
        have hgw : g < w3.heap.size := by rcases hg with hg | hg; (have := hIn g (hQ g (.inl hg)); omega); omega
        have hgt : g ≠ t := by rintro rfl; rcases hg with hg | hg; exact hkt hg; omega
        rw [Below.heap_setCell _ _ _ _ hgt, hC4.block g (by rw [World.size_alloc]; omega) (fun hv => by
          rcases hg with hg | hg
          · exact hoff g hg hv
          · have := hIn g (hQ g (.inr (.inl hv))); omega)]
        exact Below.heap_alloc _ _ _ hgw
      · rw [List.map_append, List.map_cons, List.map_take, List.map_drop]
        refine (hV4.mono (Q' := fun g => Qv g ∨ (w3.heap.size + 1 ≤ g ∧ g < w4.heap.size)) fun g hg _ => ?_).keep fun g hg => Below.heap_setCell _ _ _ _ ?_
        · rcases hg with hg | hg
          · exact .inl hg
          · exact .inr ⟨by have := hg.1; rw [World.size_alloc] at this; exact this, hg.2⟩
        · intro e
          have e : g = t := e
          rcases hg with hg | hg
          · exact hvt (e ▸ hg)
          · omega
      · intro g h1 h2
        rcases h1 with h1 | h1 <;> rcases h2 with h2 | h2
        · exact hoff g h1 h2
        · have := hIn g (hQ g (.inl h1)); omega
        · have := hIn g (hQ g (.inr (.inl h2))); omega
        · omega
      · rintro (h | h)
        · exact hkt h
        · omega
      · rintro (h | h)
        · exact hvt h
        · omega
      · intro g hg
        rcases hg with (hg | hg) | (hg | hg) | hg
        · exact .inl (hQ g (.inl hg))
        · exact .inr ⟨by omega, by rw [size_setCell]; omega⟩
        · exact .inl (hQ g (.inr (.inl hg)))
        · exact .inr ⟨by omega, by rw [size_setCell]; omega⟩
        · exact .inl (hQ g (.inr (.inr hg)))
      · intro g hg
        rcases hg with hg | hg
        · have := hIn g hg; rw [size_setCell]; omega
        · exact hg.2
      · exact Chg.setCell (p := ⟨t, 1, none⟩) ((hC3.alloc _).trans (hC4.mono fun g hg => hQ g (.inr (.inl hg))) fun g hg => .inl hg) (.inl (hQ t (.inr (.inr rfl)))) _
    replace hfin := Lib.hid hfin
    replace hV4 := Lib.hid hV4
    replace hC4 := Lib.hid hC4
    replace hB4 := Lib.hid hB4
    replace hB5 := Lib.hid hB5
    replace hB3 := Lib.hid hB3
    replace hK3 := Lib.hid hK3
    replace hC3 := Lib.hid hC3
    clear A2
    go_wp2_with fail
    first | exact bodyPost_end (v := .tuple #[]) (results_none (by kernel_rfl) _ _ _) rfl ⟨rfl, hfin.out⟩ | exact bodyPost_ret (v := .tuple #[]) (results_none (by kernel_rfl) _ _ _) rfl ⟨rfl, hfin.out⟩
end Go.Proofs.YtmlnhjfdhjachaaGreat

/-
  The table's keys handed out (layer 6): From. No condition.
-/
namespace Go.Proofs.YtmlnhjfdhjachaaGreat
set_option linter.unusedVariables false
open Go.ChangeShapes Go.WideShapes Go.ChangeAt Go.RowKit Go.Shelf
open Go.ChangeMaps (setBlock)

theorem below_none (m : List (ByteArray × ByteArray)) : below m ⟨#[]⟩ = 0 := by
  cases m with
  | nil => rfl
  | cons p m =>
    rw [below_cons, if_neg]
    have : ltB p.1 ⟨#[]⟩ = false := by
      unfold ltB
      rw [show (⟨#[]⟩ : ByteArray).toList = [] from by rw [ByteArray.toList_eq]]
      cases p.1.toList <;> rfl
    rw [this]; decide
/-- What the iterator reads. -/
structure FromAt (W : World) (t bt bk : Nat) (kv vv : Value) (m : List (ByteArray × ByteArray)) : Prop where
  tab : Blk W t 197 #[kv, vv]
  keys : Strs W (fun _ => True) kv (m.map (·.1))
  vals : Strs W (fun _ => True) vv (m.map (·.2))
  bt : Blk W bt 165 #[.pointer (some ⟨t, 0, none⟩)]
  bk : Blk W bk 9 #[.string ⟨#[]⟩]
def encP (x : ByteArray × ByteArray) : Array Value := #[.string x.1, .string x.2]
theorem strs_at {W : World} {Q : Nat → Prop} {A : Option Addr} {n c : Nat} {l : List ByteArray} (h : Strs W Q (.slice A n c) l) : n = l.length ∧ ∀ j x, l[j]? = some x → ∃ g, A = some ⟨g, 0, none⟩ ∧ W.cell? ⟨g, j, none⟩ = some (.string x) := by
  rcases h with ⟨h, rfl⟩ | ⟨g, cur, h, _, hb, _, _, hcs⟩
  · injection h with h1 h2 h3
    exact ⟨h2, fun j x hj => by simp at hj⟩
  · injection h with h1 h2 h3
    subst h1 h2 h3
    refine ⟨rfl, fun j x hj => ⟨g, rfl, ?_⟩⟩
    have := (List.getElem?_eq_some_iff.1 hj).1
    rw [hb.cell j, hcs j this, hj]
    rfl
def FromPost (m : List (ByteArray × ByteArray)) (I : List (ByteArray × ByteArray) → World → Prop) (l D : Nat) (rec : Loop) (e : Ending) (W' : World) : Prop :=
  (∃ v, e = .returned v) ∧ ∃ xs, (I xs W' ∧ xs = m) ∧ Book l D rec W'
theorem book_keep {l D : Nat} {rec : Loop} {w w' : World} (h : Book l D rec w) (hb : Below w.heap.size w w') : Book l D rec w' :=
  ⟨(hb.block l (Array.getElem?_eq_some_iff.1 h.1).1).trans h.1, (hb.block D (Array.getElem?_eq_some_iff.1 h.2).1).trans h.2⟩
def FromRel (m : List (ByteArray × ByteArray)) (I : List (ByteArray × ByteArray) → World → Prop) (l D : Nat) (rec : Loop) (i : Value) (wr : World) : Prop :=
  ∃ pre, i = .int .i64 (pre.length : Nat) ∧ pre = m.take pre.length ∧ pre.length ≤ m.length ∧ I pre wr ∧ Book l D rec wr
attribute [local go_sem] Oper.semAt_some
set_option maxRecDepth 100000 in
set_option maxHeartbeats 4000000 in
theorem from_iter {t bt bk : Nat} {kv vv : Value} {m : List (ByteArray × ByteArray)} (hr : Rises m) (hl : m.length ≤ 1000) (I : List (ByteArray × ByteArray) → World → Prop) (hI : ∀ pre W, I pre W → FromAt W t bt bk kv vv m)
    (hId : ∀ pre W W', I pre W → Below W.heap.size W W' → I pre W') (l D : Nat) (rec : Loop)
    (hY : ∀ pre x W1, (I pre W1 ∧ m[pre.length]? = some x) → Book l D rec W1 → YieldAt Fence.wide 0 Tryz.prog l (encP x) W1 fun e W' => e = .returned (.bool true) ∧ I (pre ++ [x]) W' ∧ Book l D rec W')
    (W : World) (hM : I [] W) (hB : Book l D rec W) :
    CallsIn Fence.wide 0 Tryz.prog 110 (#[.func (.yield l) #[] #[]] ++ #[.pointer (some ⟨bt, 0, none⟩), .pointer (some ⟨bk, 0, none⟩)]) W (FromPost m I l D rec) := by
  have hF := hI _ _ hM
  have cb := hF.bt.cell 0
  have ck := hF.bk.cell 0
  have ct := hF.tab.cell 0
  obtain ⟨kA, kn, kc, rfl⟩ := strs_slice hF.keys
  obtain ⟨vA, vn, vc, rfl⟩ := strs_slice hF.vals
  have hkn : kn = m.length := by have := (strs_at hF.keys).1; rwa [List.length_map] at this
  have hvn : vn = m.length := by have := (strs_at hF.vals).1; rwa [List.length_map] at this
  subst hkn
  subst hvn
  have hSe := fun q => search_any (w := W.drewN q) (hF.keys.keep fun _ _ => rfl) hr hl ⟨#[]⟩
  rw [below_none] at hSe
  generalize hst : standing m ⟨#[]⟩ = st at *
  have hS0 : W.drew.cell? ⟨bt, 0, none⟩ = some (.pointer (some ⟨t, 0, none⟩)) ∧ W.drew.cell? ⟨t, 0, none⟩ = some (.slice kA m.length kc) ∧ W.drew.cell? ⟨bk, 0, none⟩ = some (.string ⟨#[]⟩) := ⟨cb, ct, ck⟩
  replace hY := Lib.hid hY
  replace hI := Lib.hid hI
  replace hId := Lib.hid hId
  replace hM := Lib.hid hM
  replace hB := Lib.hid hB
  replace hF := Lib.hid hF
  replace hr := Lib.hid hr
  replace hst := Lib.hid hst
  replace hSe := Lib.hid hSe
  refine callsIn_of_wp Tryz.func110 rfl trivial ?_ rfl
  simp only [Tryz.ntmps110, List.size_toArray, List.length_cons, List.length_nil, Nat.reduceAdd, Nat.reduceSub, Array.replicate_succ, Array.replicate_zero, List.push_toArray, List.append_toArray, List.nil_append, List.cons_append]
  gi_upto_region 1 with fail
  refine wpIn_region_lexC [(true, 0), (true, 1), (true, 2), (true, 3), (true, 4), (false, 5), (true, 6), (true, 7), (true, 8), (true, 9), (true, 10)] (fun W' => W'.cell? ⟨bt, 0, none⟩ = some (.pointer (some ⟨t, 0, none⟩)) ∧ W'.cell? ⟨t, 0, none⟩ = some (.slice kA m.length kc) ∧ W'.cell? ⟨bk, 0, none⟩ = some (.string ⟨#[]⟩)) rfl (fun _ => trivial) (by kernel_rfl) (by kernel_rfl) (fun R hR => ?_)
  have hHeld := hS0
  iterate 5 (refine lexC_take (v := ?_) rfl (by rfl) (by assumption) ?_ ?_; rotate_left 1; (focus (intro w hSw; (try dsimp only at hSw); go_simp; (try with_reducible rfl))); (try simp only [Act.put, List.setIfInBounds_toArray, List.set_cons_zero, List.set_cons_succ]))
  (refine lexC_call rfl (by rfl) (fun K hq => ?_); go_simp)
  refine ⟨trivial, rfl, (callsIn_wide.2 (hSe.out 1)).mono ?_⟩
  rintro e w' ⟨rfl, q, rfl⟩
  have hHeld : ((W.drewN 1).drewN q).cell? ⟨bt, 0, none⟩ = some (.pointer (some ⟨t, 0, none⟩)) ∧ ((W.drewN 1).drewN q).cell? ⟨t, 0, none⟩ = some (.slice kA m.length kc) ∧ ((W.drewN 1).drewN q).cell? ⟨bk, 0, none⟩ = some (.string ⟨#[]⟩) := hS0
  (refine hq.out _ _ _ (fun _ h => h) hHeld ?_; clear hq K; (try simp only [Act.put, List.setIfInBounds_toArray, List.set_cons_zero, List.set_cons_succ]))
  iterate 5 (refine lexC_take (v := ?_) rfl (by rfl) (by assumption) ?_ ?_; rotate_left 1; (focus (intro w hSw; (try dsimp only at hSw); go_simp; (try with_reducible rfl))); (try simp only [Act.put, List.setIfInBounds_toArray, List.set_cons_zero, List.set_cons_succ]))
  refine lexC_end (hR.out _ _ ?_)
  clear hR R hHeld
  obtain ⟨W1, hW1⟩ : ∃ W1, W1 = (W.drewN 1).drewN q := ⟨_, rfl⟩
  have hbW : Below W.heap.size W W1 := by rw [hW1]; exact ⟨rfl, rfl, rfl, Nat.le_refl _, fun _ _ => rfl⟩
  have hM1 := hId.out _ _ _ hM.out hbW
  have hB1 := book_keep hB.out hbW
  rw [← hW1]
  replace hM1 := Lib.hid hM1
  replace hB1 := Lib.hid hB1
  clear hW1 hbW hS0 cb ck ct hSe
  gi_wp2
  gi_loopw [6] (fun i wr => FromRel m I l D rec i wr) (fun i _ => m.length + 1 - (intOf i).toNat)
  case atStart => exact ⟨[], rfl, rfl, Nat.zero_le _, hM1.out, hB1.out⟩
  case round =>
    obtain ⟨pre, rfl, hp, hle, hIr, hBr⟩ := hrel
    have hFr := hI.out _ _ hIr
    have cb := hFr.bt.cell 0
    have ct := hFr.tab.cell 0
    have ct1 := hFr.tab.cell 1
    by_cases hlt : pre.length < m.length
    · have hx : m[pre.length]? = some m[pre.length] := List.getElem?_eq_getElem hlt
      generalize m[pre.length] = x at hx
      have hk0 : (m.map (·.1))[pre.length]? = some x.1 := by rw [List.getElem?_map, hx]; rfl
      have hv0 : (m.map (·.2))[pre.length]? = some x.2 := by rw [List.getElem?_map, hx]; rfl
      obtain ⟨g, rfl, ck⟩ := (strs_at hFr.keys).2 _ _ hk0
      obtain ⟨g2, rfl, cv⟩ := (strs_at hFr.vals).2 _ _ hv0
      have hat : ∀ pre' W', I pre' W' → W'.cell? ⟨bt, 0, none⟩ = some (.pointer (some ⟨t, 0, none⟩)) ∧ W'.cell? ⟨t, 0, none⟩ = some (.slice (some ⟨g, 0, none⟩) m.length kc) ∧ W'.cell? ⟨t, 1, none⟩ = some (.slice (some ⟨g2, 0, none⟩) m.length vc) ∧ W'.cell? ⟨g, pre.length, none⟩ = some (.string x.1) ∧ W'.cell? ⟨g2, pre.length, none⟩ = some (.string x.2) := fun pre' W' h => by
        have hF' := hI.out _ _ h
        obtain ⟨g', e1, c1⟩ := (strs_at hF'.keys).2 _ _ hk0
        obtain ⟨g2', e2, c2⟩ := (strs_at hF'.vals).2 _ _ hv0
        cases e1
        cases e2
        exact ⟨hF'.bt.cell 0, hF'.tab.cell 0, hF'.tab.cell 1, c1, c2⟩
      have hnext : pre ++ [x] = m.take (pre ++ [x]).length := by
        rw [List.length_append, List.length_singleton, List.take_add_one, hx, ← hp]
        rfl
      have hlen' : (pre ++ [x]).length = pre.length + 1 := by simp
      have d2 : decide ((pre.length : Int) < (m.length : Int)) = true := by simpa using hlt
      have i1 : (0 : Int) ≤ (pre.length : Int) := by omega
      have i2 : (pre.length : Int) < (m.length : Int) := by omega
      have hl63 : (pre.length : Int) + 1 ≤ 9223372036854775807 := by omega
      obtain ⟨fn, tmps, assign, body, hy, hRd⟩ := hY.out pre x wr.drew ⟨hId.out _ _ _ hIr (Below.refl _ _).drew, hx⟩ (book_keep hBr (Below.refl _ _).drew)
      dsimp only [encP] at hy
      have hS1 := hat _ _ (hId.out _ _ _ hIr ((Below.refl _ _).drew))
      generalize hN : m.length = n at *
      generalize hJ : pre.length = j at *
      obtain ⟨xk, xv⟩ := x
      dsimp only at *
      replace hat := Lib.hid hat
      replace hRd := Lib.hid hRd
      replace hx := Lib.hid hx
      replace hp := Lib.hid hp
      replace hnext := Lib.hid hnext
      replace hlen' := Lib.hid hlen'
      replace hIr := Lib.hid hIr
      replace hBr := Lib.hid hBr
      replace hFr := Lib.hid hFr
      replace hN := Lib.hid hN
      replace hJ := Lib.hid hJ
      replace hk0 := Lib.hid hk0
      replace hv0 := Lib.hid hv0
      replace hS1 := Lib.hid hS1
      gi_upto_region 5 with fail
      refine wpIn_region_lexC [(true, 0), (true, 1), (true, 2), (true, 3), (true, 4), (true, 5), (true, 6), (true, 7), (true, 8), (true, 9), (true, 10), (true, 11), (true, 12), (true, 13), (true, 14), (false, 15), (true, 16)] (fun W' => W'.cell? ⟨bt, 0, none⟩ = some (.pointer (some ⟨t, 0, none⟩)) ∧ W'.cell? ⟨t, 0, none⟩ = some (.slice (some ⟨g, 0, none⟩) n kc) ∧ W'.cell? ⟨t, 1, none⟩ = some (.slice (some ⟨g2, 0, none⟩) n vc) ∧ W'.cell? ⟨g, j, none⟩ = some (.string xk) ∧ W'.cell? ⟨g2, j, none⟩ = some (.string xv)) rfl (fun _ => trivial) (by kernel_rfl) (by kernel_rfl) (fun R hR => ?_)
      have hHeld := hS1.out
      iterate 15 (refine lexC_take (v := ?_) rfl (by rfl) (by assumption) ?_ ?_; rotate_left 1; (focus (intro w hSw; (try dsimp only at hSw); go_simp; (try with_reducible rfl))); (try simp only [Act.put, List.setIfInBounds_toArray, List.set_cons_zero, List.set_cons_succ]))
      (refine lexC_call rfl (by rfl) (fun K hq => ?_); go_simp)
      refine ⟨rfl, hRd.out.mono ?_⟩
      rintro e W3 ⟨rfl, hI3, hB3⟩
      have hHeld := hat.out _ _ hI3
      replace hI3 := Lib.hid hI3
      replace hB3 := Lib.hid hB3
      (refine hq.out _ _ _ (fun _ h => h) hHeld ?_; clear hq K; (try simp only [Act.put, List.setIfInBounds_toArray, List.set_cons_zero, List.set_cons_succ]))
      (refine lexC_take (v := ?_) rfl (by rfl) (by assumption) ?_ ?_; rotate_left 1; (focus (intro w hSw; (try dsimp only at hSw); go_simp; (try with_reducible rfl))); (try simp only [Act.put, List.setIfInBounds_toArray, List.set_cons_zero, List.set_cons_succ]))
      refine lexC_end (hR.out _ _ ?_)
      clear hR R hHeld
      gi_wp2
      go_roundw
      case rel => first | exact ⟨pre ++ [(xk, xv)], by rw [hlen'.out]; go_num, hnext.out, by rw [hlen'.out, hN.out]; omega, hI3.out, hB3.out⟩ | ((repeat apply Exists.intro); refine ⟨?rr, ?ff⟩; (case ff => first | exact rfl | (apply act_eq; apply slots_eq; repeat' (first | apply cons_eq | exact rfl | (apply congrArg Value.bool; first | (simp; done) | (simp; omega)) | (simp [*]; done)))); (case rr => exact ⟨pre ++ [(xk, xv)], by rw [hlen'.out]; go_num, hnext.out, by rw [hlen'.out, hN.out]; omega, hI3.out, hB3.out⟩))
      case measure => simp [intOf]; omega
    · have d2 : decide ((pre.length : Int) < (m.length : Int)) = false := by simpa using hlt
      have he : pre = m := by rw [hp, List.take_of_length_le (by omega)]
      replace hFr := Lib.hid hFr
      replace hIr := Lib.hid hIr
      replace hBr := Lib.hid hBr
      replace hp := Lib.hid hp
      replace he := Lib.hid he
      gi_wp2
      go_end0
      exact ⟨⟨_, rfl⟩, pre, ⟨hIr.out, he.out⟩, hBr.out⟩
end Go.Proofs.YtmlnhjfdhjachaaGreat
