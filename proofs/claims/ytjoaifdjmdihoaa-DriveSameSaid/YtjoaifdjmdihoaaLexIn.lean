/-
  A region that draws its order and only reads, in the fenced walk (in a round too): one order serves. No condition.
-/
import Derived.Test.YtjoaifdjmdihoaaProg
import Derived.Test.YtjoaifdjmdihoaaLexH
import Derived.OrdersIn
import Derived.TacticsIn
namespace Go.Proofs.Ytjoaifdjmdihoaa
set_option linter.unusedVariables false
open Go.ChangeShapes Go.WideShapes Go.ChangeAt Go.RowKit

section
variable {F : Fence} {n : Nat} {P : Program} {ops : Array Oper} {Q : Exit → Act → World → Prop} {md : Region.Mode} {w : World}
/-- In this world the operation leaves v and nothing else. -/
def StAt (P : Program) (ops : Array Oper) (w : World) (o : Oper) (v : Value) (a : Act) : Prop :=
  (Region.wanted o (yielded ops a.tmps) = true ∧ (execOp a.eval o).run P w = .ok (.value v) w) ∨ (Region.wanted o (yielded ops a.tmps) = false ∧ v = undef)
theorem StAt.of_same {o : Oper} {v : Value} {a a' : Act} (hy : StAt P ops w o v a) (he : execOp a'.eval o = execOp a.eval o) (hw : Region.wanted o (yielded ops a'.tmps) = Region.wanted o (yielded ops a.tmps)) : StAt P ops w o v a' := by
  unfold StAt at *
  rw [he, hw]
  exact hy
theorem StAt.wpOpIn {i : Nat} {o : Oper} {v : Value} {a : Act} (hF : ∀ f, F.fn f) (hd : ∀ c, o.op ≠ .defer c) (hi : ops[i]? = some o) (hy : StAt P ops w o v a) {K : Act → World → Prop} (h : K (a.put o.dst v) w) : wpOpIn F n P ops Q i K a w := by
  unfold Go.wpOpIn
  simp only [hi]
  rcases hy with ⟨hw, hv⟩ | ⟨hw, rfl⟩
  · simp only [hw, if_true, Oper.wpIn, Oper.semAt_eq _ _ _ hd, hv, Oper.uponIn]; exact ⟨fun f _ => hF f, h⟩
  · simp only [hw, Bool.false_eq_true, if_false]; exact ⟨fun f _ => hF f, h⟩
/-- Whatever order is picked: each operation only reads. -/
def wpAnyS (P : Program) (md : Region.Mode) (ops : Array Oper) (w : World) (R : Act → Prop) : Nat → Array Bool → Act → Prop
  | 0, listed, a => Region.ready md ops listed = [] ∧ R a
  | f + 1, listed, a => (Region.ready md ops listed = [] → R a) ∧ ∀ i ∈ Region.ready md ops listed, ∃ o v, ops[i]? = some o ∧ StAt P ops w o v a ∧ wpAnyS P md ops w R f (listed.setIfInBounds i true) (a.put o.dst v)
theorem wpAnyIn_of_S {R : Act → Prop} (hF : ∀ f, F.fn f) (hd : ∀ (i : Nat) o, ops[i]? = some o → ∀ c, o.op ≠ .defer c) (hQ : ∀ a, R a → Q .normal a w) : ∀ (f : Nat) (listed : Array Bool) (a : Act), wpAnyS P md ops w R f listed a → wpAnyIn F n P md ops Q f listed a w
  | 0, _, _, h => ⟨h.1, hQ _ h.2⟩
  | f + 1, listed, a, h => ⟨fun h0 => hQ _ (h.1 h0), fun i hi => by
    obtain ⟨o, v, ho, hy, hr⟩ := h.2 i hi
    exact hy.wpOpIn hF (hd i o ho) ho (wpAnyIn_of_S hF hd hQ f _ _ hr)⟩
theorem wpAnyS_first {R : Act → Prop} {i : Nat} {oi : Oper} {v : Value} (hi : ops[i]? = some oi) (hsel : ∀ (j : Nat) (o : Oper) cs b, ops[j]? = some o → o.op ≠ .select cs b) :
    ∀ (f : Nat) (listed : Array Bool) (a : Act),
      (∀ j oj, ops[j]? = some oj → j ≠ i → listed.getD j true = false → (∀ e ∈ oj.after, Region.binds md e = true → e.on ≠ i) → oi.apart ops oj = true) →
      i ∈ Region.ready md ops listed → StAt P ops w oi v a → wpAnyS P md ops w R f (listed.setIfInBounds i true) (a.put oi.dst v) → wpAnyS P md ops w R (f + 1) listed a := by
  intro f
  induction f with
  | zero =>
    intro listed a _ hr hy H
    refine ⟨fun h => (by rw [h] at hr; cases hr), fun j hj => ?_⟩
    by_cases hji : j = i
    · subst hji; exact ⟨oi, v, hi, hy, H⟩
    · have := ready_mono hj hji
      rw [H.1] at this
      cases this
  | succ f ih =>
    intro listed a hfree hr hy H
    refine ⟨fun h => (by rw [h] at hr; cases hr), fun j hj => ?_⟩
    by_cases hji : j = i
    · subst hji; exact ⟨oi, v, hi, hy, H⟩
    · obtain ⟨oj, u, hoj, hyj, hr1⟩ := H.2 j (ready_mono hj hji)
      obtain ⟨hjun, oj', hoj', hall⟩ := mem_ready.1 hj
      have e : oj' = oj := Option.some.inj (hoj'.symm.trans hoj)
      subst e
      have hnot : ∀ e ∈ oj'.after, Region.binds md e = true → e.on ≠ i := fun e he hb heq => by
        have h1 := hall e he hb
        have h0 := (mem_ready.1 hr).1
        rw [heq] at h1
        rcases Nat.lt_or_ge i listed.size with h' | h'
        · simp [h'] at h0 h1; rw [h0] at h1; cases h1
        · simp [Array.getElem?_eq_none h'] at h1
      obtain ⟨h1, h2, h3⟩ := Oper.apart_spec (hfree j oj' hoj hji hjun hnot)
      have hsi := fun cs b => hsel i oi cs b hi
      have hsj := fun cs b => hsel j oj' cs b hoj
      have hyj' : StAt P ops w oj' u a := hyj.of_same (execOp_put oj' hsj a oi.dst v h1).symm (wanted_put oj' a oi.dst v h1).symm
      have hyi' : StAt P ops w oi v (a.put oj'.dst u) := hy.of_same (execOp_put oi hsi a oj'.dst u h3) (wanted_put oi a oj'.dst u h3)
      have hfree' : ∀ k ok, ops[k]? = some ok → k ≠ i → (listed.setIfInBounds j true).getD k true = false →
          (∀ e ∈ ok.after, Region.binds md e = true → e.on ≠ i) → oi.apart ops ok = true := fun k ok hk hki hun hno => by
        refine hfree k ok hk hki ?_ hno
        by_cases hjk : j = k
        · subst hjk; exact hjun
        · rw [getD_set_ne true hjk] at hun; exact hun
      refine ⟨oj', u, hoj, hyj', ih (listed.setIfInBounds j true) (a.put oj'.dst u) hfree' (ready_mono hr (Ne.symm hji)) hyi' ?_⟩
      rw [Array.setIfInBounds_comm _ _ hji, ← Act.put_comm a v u h2]
      exact hr1
end
def lexOKS (md : Region.Mode) (ops : Array Oper) : List Nat → Array Bool → Bool
  | [], listed => (Region.ready md ops listed).isEmpty
  | k :: t, listed => (Region.ready md ops listed).contains k && Region.free md ops listed k && lexOKS md ops t (listed.setIfInBounds k true)
def wpLexS (P : Program) (l : List Oper) (w : World) (R : Act → Prop) : List Nat → Act → Prop
  | [], a => R a
  | k :: t, a => ∃ o v, l[k]? = some o ∧ StAt P l.toArray w o v a ∧ wpLexS P l w R t (a.put o.dst v)
theorem lexS_take {P : Program} {l : List Oper} {w : World} {R : Act → Prop} {k : Nat} {t : List Nat} {a : Act} {o : Oper} {v : Value} (ho : l[k]? = some o) (hw : Region.wanted o (yielded l.toArray a.tmps) = true) (hy : (execOp a.eval o).run P w = .ok (.value v) w) (h : wpLexS P l w R t (a.put o.dst v)) : wpLexS P l w R (k :: t) a :=
  ⟨o, v, ho, .inl ⟨hw, hy⟩, h⟩
theorem lexS_pass {P : Program} {l : List Oper} {w : World} {R : Act → Prop} {k : Nat} {t : List Nat} {a : Act} {o : Oper} (ho : l[k]? = some o) (hw : Region.wanted o (yielded l.toArray a.tmps) = false) (h : wpLexS P l w R t (a.put o.dst undef)) : wpLexS P l w R (k :: t) a :=
  ⟨o, undef, ho, .inr ⟨hw, rfl⟩, h⟩
theorem wpAnyS_of_lex {P : Program} {l : List Oper} {w : World} {R : Act → Prop} {md : Region.Mode} (hs : Region.noSelect l.toArray = true) : ∀ (ord : List Nat) (listed : Array Bool) (a : Act), lexOKS md l.toArray ord listed = true → wpLexS P l w R ord a → wpAnyS P md l.toArray w R ord.length listed a
  | [], listed, a, hB, h => ⟨by simpa [lexOKS] using hB, h⟩
  | k :: t, listed, a, hB, h => by
    simp only [lexOKS, Bool.and_eq_true] at hB
    obtain ⟨⟨hr, hf⟩, hB'⟩ := hB
    obtain ⟨o, v, ho, hy, h⟩ := h
    have hi : l.toArray[k]? = some o := by simpa using ho
    exact wpAnyS_first hi (Region.noSelect_spec hs) t.length listed a (Region.free_spec hi hf) (by simpa using hr) hy (wpAnyS_of_lex hs t _ _ hB' h)
def noDefer (l : List Oper) : Bool := l.all fun o => match o.op with | .defer _ => false | _ => true
theorem wpIn_region_lex {F : Fence} {n : Nat} {P : Program} {id : Nat} {Q : Exit → Act → World → Prop} {a : Act} {w : World} {l : List Oper} (ord : List Nat) (hF : ∀ f, F.fn f) (hm : P.follows .mixedOrders = true) (hd : noDefer l = true)
    (hB : (Region.noSelect l.toArray && decide (ord.length = l.length) && lexOKS .any l.toArray ord (Array.replicate l.length false)) = true)
    (h : ∀ R : Act → Prop, Hid (∀ a, Q .normal a w.drew → R a) → wpLexS P l w.drew R ord a) : (Code.region id l.toArray true).wpIn F n P Q a w := by
  simp only [Bool.and_eq_true, decide_eq_true_eq] at hB
  obtain ⟨⟨hs, hl⟩, hB⟩ := hB
  have h1 := wpAnyS_of_lex (md := .any) hs ord _ a hB (h (fun a => Q .normal a w.drew) (Lib.hid fun _ h => h))
  rw [hl] at h1
  refine wpIn_region_any hm ?_
  have h2 := wpAnyIn_of_S (F := F) (n := n) (Q := Q) hF (fun i o hi c hc => by
    have hi' : l[i]? = some o := by simpa using hi
    have := List.all_eq_true.1 hd o (List.mem_of_getElem? hi')
    rw [hc] at this
    cases this) (fun a h => h) _ _ _ h1
  simp only [List.size_toArray]
  exact h2
end Go.Proofs.Ytjoaifdjmdihoaa
