import Derived.Test.YtmlnhjfdhjachaaGreatDrive
import Derived.Test.YtmlnhjfdhjachaaGreatNextO
/-
  A routine that lies in memory of the call's own. No condition.
-/
namespace Go.Proofs.YtmlnhjfdhjachaaGreat
set_option linter.unusedVariables false
open Go.ChangeShapes Go.WideShapes Go.ChangeAt Go.RowKit
open Go.ChangeMaps (setBlock)

section
variable {σ : Type} {Rt : Rout σ} {B b : Nat} {W W' : World} {s : σ}
def RAt (Rt : Rout σ) (B : Nat) (W : World) (b : Nat) (s : σ) : Prop := ∃ Q, Rt.R W Q b s ∧ ∀ k, Q k → B ≤ k
theorem RAt.far (h : RAt Rt B W b s) (hs : W.heap.size ≤ W'.heap.size) (hk : ∀ k, k < W.heap.size → W'.heap[k]? = W.heap[k]?) : RAt Rt B W' b s := by
  obtain ⟨Q, h1, h2⟩ := h
  exact ⟨Q, Rt.keep h1 hs fun k hk' => hk k (Rt.own h1 k hk'), h2⟩
theorem RAt.below (h : RAt Rt B W b s) (hb : Below W.heap.size W W') : RAt Rt B W' b s := h.far hb.size fun k hk => hb.block k hk
theorem RAt.lt (h : RAt Rt B W b s) : b < W.heap.size ∧ B ≤ b := by
  obtain ⟨Q, h1, h2⟩ := h
  exact ⟨Rt.own h1 _ (Rt.hG h1), h2 _ (Rt.hG h1)⟩
theorem RAt.act (h : RAt Rt B W b s) : Calls Tryz.prog Rt.fAct #[.pointer (some ⟨b, 0, none⟩)] W fun e w' => e = .returned (.tuple #[(Rt.act s).1.val, .bool (Rt.act s).2]) ∧ Below W.heap.size W w' := by
  obtain ⟨Q, h1, _⟩ := h
  exact Rt.cAct h1
theorem RAt.take (h : RAt Rt B W b s) (hB : B ≤ W.heap.size) (g : PGot) (hg : g.Ok) (hm : (Rt.act s).2 = true) : Calls Tryz.prog Rt.fTake #[.pointer (some ⟨b, 0, none⟩), g.val] W fun e w' => e = .returned (.tuple #[]) ∧ RAt Rt B w' b (Rt.take s g) ∧ Chg (fun k => B ≤ k) W w' := by
  obtain ⟨Q, h1, h2⟩ := h
  refine (Rt.cTake g h1 hg hm).mono ?_
  rintro e w' ⟨he, h3, h4⟩
  refine ⟨he, ⟨_, h3, fun k hk => ?_⟩, h4.mono h2⟩
  rcases hk with hk | hk
  · exact h2 k hk
  · omega
end
end Go.Proofs.YtmlnhjfdhjachaaGreat

/-
  Several threads, and how they lie in memory: for any kind of routine that is one block. No condition.
-/
namespace Go.Proofs.YtmlnhjfdhjachaaGreat
set_option linter.unusedVariables false
open Go.ChangeShapes Go.WideShapes Go.ChangeAt Go.RowKit
open Go.ChangeMaps (setBlock)

/-- A thing that lies in one block. -/
structure Lie (σ : Type) where
  T : TypeId
  L : World → Nat → σ → Prop
  lt : ∀ {w b s}, L w b s → b < w.heap.size
  keep : ∀ {w w' b s}, L w b s → w'.heap[b]? = w.heap[b]? → L w' b s
theorem Lie.below {σ : Type} (Y : Lie σ) {w w' : World} {b : Nat} {s : σ} (h : Y.L w b s) (hb : Below w.heap.size w w') : Y.L w' b s := Y.keep h (hb.block _ (Y.lt h))
def ptrsL (bs : List Nat) : List Value := bs.map fun b => .pointer (some ⟨b, 0, none⟩)
theorem ptrsL_snoc (bs : List Nat) (b : Nat) : ptrsL bs ++ [.pointer (some ⟨b, 0, none⟩)] = ptrsL (bs ++ [b]) := by simp [ptrsL]
section
variable {σ : Type} {Y : Lie σ}
/-- The heap, the threads, and the row in which they stand. -/
structure Mob (Y : Lie σ) (w1 : World) (hb : Nat) (S : PHeap) (F : Nat → Prop) (bs : List Nat) (ss : Nat → σ) (v : Value) (wr : World) : Prop where
  own : Own w1 hb S F wr
  each : ∀ (j : Nat) b, bs[j]? = some b → Y.L wr b (ss j) ∧ ¬ F b ∧ w1.heap.size ≤ b
  nodup : bs.Nodup
  row : wr.ownsRow w1.heap.size Y.T 1 v bs.length (ptrsL bs)
  off : ∀ g, v.ownBlock = some g → ¬ F g ∧ g ∉ bs
theorem Mob.keep {w1 wr w' : World} {hb : Nat} {S : PHeap} {F : Nat → Prop} {bs : List Nat} {ss : Nat → σ} {v : Value} (h : Mob Y w1 hb S F bs ss v wr) (hb' : Below wr.heap.size wr w') : Mob Y w1 hb S F bs ss v w' :=
  ⟨h.own.keep hb', fun j b hj => ⟨Y.below (h.each j b hj).1 hb', (h.each j b hj).2⟩, h.nodup, ⟨h.row.1, h.row.2.imp id fun ⟨g, cap, cur, e1, e2, e3, r⟩ => ⟨g, cap, cur, e1, e2, (hb'.block g (Array.getElem?_eq_some_iff.1 e3).1).trans e3, r⟩⟩, h.off⟩
theorem Mob.cell {w1 wr : World} {hb : Nat} {S : PHeap} {F : Nat → Prop} {bs : List Nat} {ss : Nat → σ} {g cap j b : Nat} (h : Mob Y w1 hb S F bs ss (.slice (some ⟨g, 0, none⟩) bs.length cap) wr) (hj : bs[j]? = some b) : wr.cell? ⟨g, j, none⟩ = some (.pointer (some ⟨b, 0, none⟩)) := by
  have := h.row.cells (g := g) rfl j (.pointer (some ⟨b, 0, none⟩)) (by simp [ptrsL, hj])
  have e2 : (⟨g, 0, none⟩ : Addr).add j = ⟨g, j, none⟩ := by unfold Addr.add; split <;> simp_all
  rw [e2] at this
  exact this
/-- One thread has gone on. -/
theorem Mob.next {Rt : Rout σ} (hRL : ∀ w D b s, Rt.R w D b s → D b ∧ Y.L w b s) {w1 wr w' : World} {hb : Nat} {S S' : PHeap} {F F' D' : Nat → Prop} {bs : List Nat} {ss : Nat → σ} {v : Value} {j0 b0 : Nat} {s' : σ} {is : Bool} (h : Mob Y w1 hb S F bs ss v wr) (hj0 : bs[j0]? = some b0)
    (hP : NextP Rt w1 wr F (fun k => k = b0) hb b0 S (ss j0) S' s' F' D' is w') : Mob Y w1 hb S' F' bs (fun j => if j = j0 then s' else ss j) v w' := by
  obtain ⟨po, pr, pof, ps, pc, _⟩ := hP
  obtain ⟨pr1, pr2⟩ := hRL _ _ _ _ pr
  have inj : ∀ j b, bs[j]? = some b → j ≠ j0 → b ≠ b0 := by
    intro j b hj hne e
    subst e
    exact hne <| (List.getElem?_inj (List.getElem?_eq_some_iff.mp hj).1 h.nodup).1 (hj.trans hj0.symm)
  have keepB : ∀ k, k < wr.heap.size → ¬ F k → k ≠ b0 → w'.heap[k]? = wr.heap[k]? ∧ ¬ F' k := by
    intro k hk hF hne
    refine ⟨pc.block k hk (fun h => h.elim hF hne), fun hF' => ?_⟩
    rcases ps k (.inl hF') with h1 | h1 | h1
    · exact hF h1
    · exact hne h1
    · omega
  refine ⟨po, fun j b hj => ?_, h.nodup, ?_, fun g hg => ?_⟩
  · obtain ⟨e1, e2, e3⟩ := h.each j b hj
    by_cases hjj : j = j0
    · subst hjj
      have : b = b0 := by rw [hj] at hj0; injection hj0
      subst this
      rw [if_pos rfl]
      exact ⟨pr2, fun hF' => pof b hF' pr1, e3⟩
    · rw [if_neg hjj]
      obtain ⟨k1, k2⟩ := keepB b (Y.lt e1) e2 (inj j b hj hjj)
      exact ⟨Y.keep e1 k1, k2, e3⟩
  · refine ⟨h.row.1, h.row.2.imp id fun ⟨g, cap, cur, e1, e2, e3, r⟩ => ⟨g, cap, cur, e1, e2, ?_, r⟩⟩
    obtain ⟨k1, k2⟩ := h.off g (by rw [e1]; rfl)
    exact (keepB g (Array.getElem?_eq_some_iff.1 e3).1 k1 (fun e => k2 (e ▸ List.mem_of_getElem? hj0))).1.trans e3
  · obtain ⟨k1, k2⟩ := h.off g hg
    exact ⟨(keepB g (World.ownsRow.lt h.row g hg).2 k1 (fun e => k2 (e ▸ List.mem_of_getElem? hj0))).2, k2⟩
/-- The heap has turned by itself. -/
theorem Mob.turned {w1 wr w' : World} {hb : Nat} {S S' : PHeap} {F : Nat → Prop} {bs : List Nat} {ss : Nat → σ} {v : Value} (h : Mob Y w1 hb S F bs ss v wr) (t : Turned F hb S' wr w') : Mob Y w1 hb S' (nw F wr w') bs ss v w' := by
  have keepB : ∀ k, k < wr.heap.size → ¬ F k → w'.heap[k]? = wr.heap[k]? ∧ ¬ nw F wr w' k := by
    intro k hk hF
    refine ⟨t.2.block k hk hF, fun hF' => ?_⟩
    rcases hF' with h1 | h1
    · exact hF h1
    · omega
  refine ⟨h.own.turned t, fun j b hj => ?_, h.nodup, ?_, fun g hg => ?_⟩
  · obtain ⟨e1, e2, e3⟩ := h.each j b hj
    obtain ⟨k1, k2⟩ := keepB b (Y.lt e1) e2
    exact ⟨Y.keep e1 k1, k2, e3⟩
  · refine ⟨h.row.1, h.row.2.imp id fun ⟨g, cap, cur, e1, e2, e3, r⟩ => ⟨g, cap, cur, e1, e2, ?_, r⟩⟩
    exact (keepB g (Array.getElem?_eq_some_iff.1 e3).1 (h.off g (by rw [e1]; rfl)).1).1.trans e3
  · exact ⟨(keepB g (World.ownsRow.lt h.row g hg).2 (h.off g hg).1).2, (h.off g hg).2⟩
/-- One thread more. -/
theorem Mob.more {w1 wr w2 w' : World} {hb : Nat} {S : PHeap} {F : Nat → Prop} {bs : List Nat} {ss : Nat → σ} {v v' : Value} {b : Nat} {s : σ} (h : Mob Y w1 hb S F bs ss v wr) (hb2 : Below wr.heap.size wr w2) (hN : Y.L w2 b s) (hbb : wr.heap.size ≤ b)
    (hown : w'.ownsRow w1.heap.size Y.T 1 v' (bs.length + 1) (ptrsL (bs ++ [b]))) (hg : w2.grownBy w' v.ownBlock) (hloc : v'.ownBlock = v.ownBlock ∨ v'.ownBlock = some w2.heap.size) :
    Mob Y w1 hb S F (bs ++ [b]) (fun j => if j = bs.length then s else ss j) v' w' := by
  have h2 := h.keep hb2
  have hlt := h.own.heap.own
  have hlt2 := h2.own.heap.own
  have hs := hb2.size
  have hw := h.own.below.size
  have hFb : ¬ F b := fun hF => by have := hlt b hF; omega
  have inB : ∀ x ∈ bs, x < wr.heap.size := fun x hx => by
    obtain ⟨j, hj, rfl⟩ := List.getElem_of_mem hx
    exact Y.lt (h.each j _ (List.getElem?_eq_getElem hj)).1
  have vlt : ∀ g, v.ownBlock = some g → w1.heap.size ≤ g ∧ g < wr.heap.size := fun g hg => World.ownsRow.lt h.row g hg
  have keepB : ∀ k, k < w2.heap.size → some k ≠ v.ownBlock → w'.heap[k]? = w2.heap[k]? := fun k hk hne => hg.block k hk hne
  have hbl : b < w2.heap.size := Y.lt hN
  refine ⟨⟨h2.own.heap.keep hg.size fun k hk => keepB k (hlt2 k hk) (fun e => (h.off k e.symm).1 hk), h.own.new, ?_⟩, fun j b' hj => ?_, ?_, by rw [List.length_append]; exact hown, fun g hg' => ?_⟩
  · refine ⟨hg.os.trans h2.own.below.os, hg.tape.trans h2.own.below.tape, hg.output.trans h2.own.below.output, Nat.le_trans h2.own.below.size hg.size, fun k hk => (keepB k (Nat.lt_of_lt_of_le hk h2.own.below.size) fun e => ?_).trans (h2.own.below.block k hk)⟩
    have := (vlt k e.symm).1
    omega
  · rcases Nat.lt_or_ge j bs.length with hl | hl
    · rw [List.getElem?_append_left hl] at hj
      rw [if_neg (by omega)]
      obtain ⟨e1, e2, e3⟩ := h2.each j b' hj
      exact ⟨Y.keep e1 (keepB b' (Y.lt e1) fun e => (h.off b' e.symm).2 (List.mem_of_getElem? hj)), e2, e3⟩
    · rw [List.getElem?_append_right hl] at hj
      have hj0 : j = bs.length := by
        have := (List.getElem?_eq_some_iff.mp hj).1
        simp at this
        omega
      subst hj0
      simp at hj
      subst hj
      rw [if_pos rfl]
      exact ⟨Y.keep hN (keepB b hbl fun e => by have := (vlt b e.symm).2; omega), hFb, by omega⟩
  · rw [List.nodup_append]
    refine ⟨h.nodup, by simp, fun a ha b' hb' e => ?_⟩
    simp at hb'
    subst hb'
    have := inB a ha
    omega
  · rcases hloc with e | e
    · rw [e] at hg'
      refine ⟨(h.off g hg').1, fun hm => ?_⟩
      rcases List.mem_append.1 hm with hm | hm
      · exact (h.off g hg').2 hm
      · simp at hm
        have := (vlt g hg').2
        omega
    · rw [e] at hg'
      injection hg' with hg'
      refine ⟨fun hF => by have := hlt g hF; omega, fun hm => ?_⟩
      rcases List.mem_append.1 hm with hm | hm
      · have := inB g hm; omega
      · simp at hm
        omega
end
end Go.Proofs.YtmlnhjfdhjachaaGreat

/-
  Several threads, each with memory of its own: how they lie in memory. No condition.
-/
namespace Go.Proofs.YtmlnhjfdhjachaaGreat
set_option linter.unusedVariables false
open Go.ChangeShapes Go.WideShapes Go.ChangeAt Go.RowKit
open Go.ChangeMaps (setBlock)

section
variable {σ : Type} {Rt : Rout σ}
/-- The heap, the threads, and the row in which they stand. -/
structure Crew (Rt : Rout σ) (w1 : World) (hb : Nat) (S : PHeap) (F : Nat → Prop) (bs : List Nat) (ss : Nat → σ) (v : Value) (D : Nat → Nat → Prop) (wr : World) : Prop where
  own : Own w1 hb S F wr
  each : ∀ (j : Nat) b, bs[j]? = some b → Rt.R wr (D j) b (ss j) ∧ Off F (D j) ∧ ∀ k, D j k → w1.heap.size ≤ k
  apart : ∀ i j, i < bs.length → j < bs.length → i ≠ j → Off (D i) (D j)
  row : wr.ownsRow w1.heap.size Rt.T 1 v bs.length (ptrsL bs)
  off : ∀ g, v.ownBlock = some g → ¬ F g ∧ ∀ j, j < bs.length → ¬ D j g
variable {w1 wr w2 w' : World} {hb : Nat} {S S' : PHeap} {F F' : Nat → Prop} {bs : List Nat} {ss : Nat → σ} {v v' : Value} {D : Nat → Nat → Prop} {D' : Nat → Prop}
theorem row_keep {e : TypeId} {size n B : Nat} {xs : List Value} (h : wr.ownsRow B e size v n xs) (hk : ∀ g, v.ownBlock = some g → w'.heap[g]? = wr.heap[g]?) : w'.ownsRow B e size v n xs :=
  ⟨h.1, h.2.imp id fun ⟨g, cap, cur, e1, e2, e3, r⟩ => ⟨g, cap, cur, e1, e2, (hk g (by rw [e1]; rfl)).trans e3, r⟩⟩
theorem Crew.keep (h : Crew Rt w1 hb S F bs ss v D wr) (hb' : Below wr.heap.size wr w') : Crew Rt w1 hb S F bs ss v D w' :=
  ⟨h.own.keep hb', fun j b hj => ⟨Rt.below (h.each j b hj).1 hb', (h.each j b hj).2⟩, h.apart, row_keep h.row fun g hg => hb'.block g (World.ownsRow.lt h.row g hg).2, h.off⟩
theorem Crew.cell {g cap j b : Nat} (h : Crew Rt w1 hb S F bs ss (.slice (some ⟨g, 0, none⟩) bs.length cap) D wr) (hj : bs[j]? = some b) : wr.cell? ⟨g, j, none⟩ = some (.pointer (some ⟨b, 0, none⟩)) := by
  have := h.row.cells (g := g) rfl j (.pointer (some ⟨b, 0, none⟩)) (by simp [ptrsL, hj])
  have e2 : (⟨g, 0, none⟩ : Addr).add j = ⟨g, j, none⟩ := by unfold Addr.add; split <;> simp_all
  rw [e2] at this
  exact this
theorem lt_of_get {l : List Nat} {j b : Nat} (h : l[j]? = some b) : j < l.length := (List.getElem?_eq_some_iff.1 h).1
/-- One thread has gone on. -/
theorem Crew.step {j0 b0 : Nat} {s' : σ} (h : Crew Rt w1 hb S F bs ss v D wr) (hj0 : bs[j0]? = some b0) (po : Own w1 hb S' F' w') (pr : Rt.R w' D' b0 s') (pof : Off F' D') (ps : ∀ k, F' k ∨ D' k → F k ∨ D j0 k ∨ wr.heap.size ≤ k) (pc : Chg (fun k => F k ∨ D j0 k) wr w') :
    Crew Rt w1 hb S' F' bs (fun j => if j = j0 then s' else ss j) v (fun j => if j = j0 then D' else D j) w' := by
  have hl0 := lt_of_get hj0
  have keepB : ∀ k, k < wr.heap.size → ¬ F k → ¬ D j0 k → w'.heap[k]? = wr.heap[k]? ∧ ¬ F' k ∧ ¬ D' k := by
    intro k hk hF hD
    have hno : ¬ (F' k ∨ D' k) := fun hh => by
      rcases ps k hh with h1 | h1 | h1
      · exact hF h1
      · exact hD h1
      · omega
    exact ⟨pc.block k hk (fun hh => hh.elim hF hD), fun hh => hno (.inl hh), fun hh => hno (.inr hh)⟩
  have kD : ∀ j b, bs[j]? = some b → j ≠ j0 → ∀ k, D j k → w'.heap[k]? = wr.heap[k]? ∧ ¬ F' k ∧ ¬ D' k := fun j b hj hne k hk =>
    keepB k (Rt.own (h.each j b hj).1 k hk) (fun hF => (h.each j b hj).2.1 k hF hk) (fun hD => h.apart j j0 (lt_of_get hj) hl0 hne k hk hD)
  have get : ∀ j, j < bs.length → ∃ b, bs[j]? = some b := fun j hj => ⟨_, List.getElem?_eq_getElem hj⟩
  refine ⟨po, fun j b hj => ?_, fun i j hi hj hne => ?_, row_keep h.row fun g hg => ?_, fun g hg => ?_⟩
  · by_cases hjj : j = j0
    · subst hjj
      have : b = b0 := by rw [hj] at hj0; injection hj0
      subst this
      rw [if_pos rfl, if_pos rfl]
      refine ⟨pr, pof, fun k hk => ?_⟩
      rcases ps k (.inr hk) with h1 | h1 | h1
      · exact h.own.new k h1
      · exact (h.each j b hj).2.2 k h1
      · have := h.own.below.size; omega
    · rw [if_neg hjj, if_neg hjj]
      exact ⟨Rt.keep (h.each j b hj).1 pc.size fun k hk => (kD j b hj hjj k hk).1, fun k hF hk => (kD j b hj hjj k hk).2.1 hF, (h.each j b hj).2.2⟩
  · obtain ⟨bi, hbi⟩ := get i hi
    obtain ⟨bj, hbj⟩ := get j hj
    by_cases hi0 : i = j0
    · subst hi0
      rw [if_pos rfl, if_neg (fun e => hne e.symm)]
      exact fun k h1 h2 => (kD j bj hbj (fun e => hne e.symm) k h2).2.2 h1
    · rw [if_neg hi0]
      by_cases hj0' : j = j0
      · subst hj0'
        rw [if_pos rfl]
        exact fun k h1 h2 => (kD i bi hbi hi0 k h1).2.2 h2
      · rw [if_neg hj0']
        exact h.apart i j hi hj hne
  · have ho := h.off g hg
    exact (keepB g (World.ownsRow.lt h.row g hg).2 ho.1 (ho.2 j0 hl0)).1
  · have ho := h.off g hg
    have hk := keepB g (World.ownsRow.lt h.row g hg).2 ho.1 (ho.2 j0 hl0)
    refine ⟨hk.2.1, fun j hj => ?_⟩
    by_cases hjj : j = j0
    · rw [if_pos hjj]; exact hk.2.2
    · rw [if_neg hjj]; exact ho.2 j hj
/-- The heap has turned by itself. -/
theorem Crew.turned (h : Crew Rt w1 hb S F bs ss v D wr) (t : Turned F hb S' wr w') : Crew Rt w1 hb S' (nw F wr w') bs ss v D w' := by
  have keepB : ∀ k, k < wr.heap.size → ¬ F k → w'.heap[k]? = wr.heap[k]? ∧ ¬ nw F wr w' k := by
    intro k hk hF
    refine ⟨t.2.block k hk hF, fun hF' => ?_⟩
    rcases hF' with h1 | h1
    · exact hF h1
    · omega
  refine ⟨h.own.turned t, fun j b hj => ?_, h.apart, row_keep h.row fun g hg => ?_, fun g hg => ?_⟩
  · obtain ⟨e1, e2, e3⟩ := h.each j b hj
    have hk : ∀ k, D j k → w'.heap[k]? = wr.heap[k]? ∧ ¬ nw F wr w' k := fun k hk => keepB k (Rt.own e1 k hk) fun hF => e2 k hF hk
    exact ⟨Rt.keep e1 t.2.size fun k hD => (hk k hD).1, fun k hF hD => (hk k hD).2 hF, e3⟩
  · exact (keepB g (World.ownsRow.lt h.row g hg).2 (h.off g hg).1).1
  · exact ⟨(keepB g (World.ownsRow.lt h.row g hg).2 (h.off g hg).1).2, (h.off g hg).2⟩
/-- One thread more. -/
theorem Crew.more {b : Nat} {s : σ} (h : Crew Rt w1 hb S F bs ss v D wr) (hb2 : Below wr.heap.size wr w2) (hN : RAt Rt wr.heap.size w2 b s)
    (hown : w'.ownsRow w1.heap.size Rt.T 1 v' (bs.length + 1) (ptrsL (bs ++ [b]))) (hg : w2.grownBy w' v.ownBlock) (hloc : v'.ownBlock = v.ownBlock ∨ v'.ownBlock = some w2.heap.size) :
    ∃ D'', Crew Rt w1 hb S F (bs ++ [b]) (fun j => if j = bs.length then s else ss j) v' D'' w' := by
  obtain ⟨Dn, hN, hDn⟩ := hN
  have h2 := h.keep hb2
  have hlt := h.own.heap.own
  have hlt2 := h2.own.heap.own
  have hs := hb2.size
  have hw := h.own.below.size
  have vlt : ∀ g, v.ownBlock = some g → w1.heap.size ≤ g ∧ g < wr.heap.size := fun g hg => World.ownsRow.lt h.row g hg
  have keepB : ∀ k, k < w2.heap.size → some k ≠ v.ownBlock → w'.heap[k]? = w2.heap[k]? := fun k hk hne => hg.block k hk hne
  have Dlt : ∀ j, j < bs.length → ∀ k, D j k → k < wr.heap.size := fun j hj k hk => Rt.own (h.each j _ (List.getElem?_eq_getElem hj)).1 k hk
  have Nlt : ∀ k, Dn k → k < w2.heap.size := fun k hk => Rt.own hN k hk
  refine ⟨fun j => if j = bs.length then Dn else D j, ⟨h2.own.heap.keep hg.size fun k hk => keepB k (hlt2 k hk) (fun e => (h.off k e.symm).1 hk), h.own.new, ?_⟩, fun j b' hj => ?_, fun i j hi hj hne => ?_, by rw [List.length_append]; exact hown, fun g hg' => ?_⟩
  · refine ⟨hg.os.trans h2.own.below.os, hg.tape.trans h2.own.below.tape, hg.output.trans h2.own.below.output, Nat.le_trans h2.own.below.size hg.size, fun k hk => (keepB k (Nat.lt_of_lt_of_le hk h2.own.below.size) fun e => ?_).trans (h2.own.below.block k hk)⟩
    have := (vlt k e.symm).1
    omega
  · rcases Nat.lt_or_ge j bs.length with hl | hl
    · rw [List.getElem?_append_left hl] at hj
      rw [if_neg (by omega), if_neg (by omega)]
      obtain ⟨e1, e2, e3⟩ := h2.each j b' hj
      exact ⟨Rt.keep e1 hg.size fun k hk => keepB k (Rt.own e1 k hk) fun e => (h.off k e.symm).2 j hl hk, e2, e3⟩
    · rw [List.getElem?_append_right hl] at hj
      have hj0 : j = bs.length := by
        have := (List.getElem?_eq_some_iff.mp hj).1
        simp at this
        omega
      subst hj0
      simp at hj
      subst hj
      rw [if_pos rfl, if_pos rfl]
      exact ⟨Rt.keep hN hg.size fun k hk => keepB k (Nlt k hk) fun e => by have := (vlt k e.symm).2; have := hDn k hk; omega, fun k hF hk => by have := hlt k hF; have := hDn k hk; omega, fun k hk => by have := hDn k hk; omega⟩
  · rw [List.length_append, List.length_singleton] at hi hj
    by_cases hi0 : i = bs.length
    · rw [if_pos hi0, if_neg (by omega)]
      exact fun k h1 h3 => by have := hDn k h1; have := Dlt j (by omega) k h3; omega
    · rw [if_neg hi0]
      by_cases hj0 : j = bs.length
      · rw [if_pos hj0]
        exact fun k h1 h3 => by have := hDn k h3; have := Dlt i (by omega) k h1; omega
      · rw [if_neg hj0]
        exact h.apart i j (by omega) (by omega) hne
  · rw [List.length_append, List.length_singleton]
    rcases hloc with e | e
    · rw [e] at hg'
      refine ⟨(h.off g hg').1, fun j hj => ?_⟩
      by_cases hj0 : j = bs.length
      · rw [if_pos hj0]
        exact fun hk => by have := hDn g hk; have := (vlt g hg').2; omega
      · rw [if_neg hj0]
        exact (h.off g hg').2 j (by omega)
    · rw [e] at hg'
      injection hg' with hg'
      refine ⟨fun hF => by have := hlt g hF; omega, fun j hj => ?_⟩
      by_cases hj0 : j = bs.length
      · rw [if_pos hj0]
        exact fun hk => by have := Nlt g hk; omega
      · rw [if_neg hj0]
        exact fun hk => by have := Dlt j (by omega) g hk; omega
end
end Go.Proofs.YtmlnhjfdhjachaaGreat
