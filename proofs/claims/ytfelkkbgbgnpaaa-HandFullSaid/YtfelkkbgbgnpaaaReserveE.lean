/-
  Several threads that reserve (layer 28): the plain law, and how they lie in memory. No condition.
-/
import Derived.Test.YtfelkkbgbgnpaaaReserveC
import Derived.Test.YtfelkkbgbgnpaaaReserveA
import Derived.Test.YtfelkkbgbgnpaaaNextO
namespace Go.Proofs.Ytfelkkbgbgnpaaa
set_option linter.unusedVariables false
open Go.ChangeShapes Go.WideShapes Go.ChangeAt Go.RowKit
open Go.ChangeMaps (setBlock)

structure AInv (c : PCfg) (s : PRes) : Prop where
  made : s.made = true
  cfg : s.cfg = c
  seen : s.over = false → s.seen = true → entOk s.was c.cap = true ∧ s.next = entV s.was c.cap
theorem word_nat (g : Nat) (h : g ≤ 1000) : cameOf (65537 * (g : Int)) = g ∧ inOf (65537 * (g : Int)) = g := by
  have hb : 65537 * (g : Int) / 65536 = g := by
    rw [show 65537 * (g : Int) = g + 65536 * g by omega, Int.add_mul_ediv_left _ _ (by decide)]
    omega
  unfold cameOf inOf
  rw [hb]
  omega
theorem ent_word (g : Nat) (h : g ≤ 1000) (m : Int) : (entOk (65537 * (g : Int)) m = true ↔ (g : Int) < m) ∧ (entOk (65537 * (g : Int)) m = true → entV (65537 * (g : Int)) m = 65537 * ((g : Int) + 1)) := by
  obtain ⟨h1, h2⟩ := word_nat g h
  have hp : packOk ((g : Int) + 1) ((g : Int) + 1) = true := packOk_t (by omega)
  constructor
  · unfold entOk
    rw [h1, h2, hp, Bool.and_true, decide_eq_true_eq]
  · intro he
    unfold entV
    rw [if_pos he, h1, h2]
    omega
/-- What one step does. -/
structure AStep (c : PCfg) (g : Nat) (S' : PHeap) (s' : PRes) (S : PHeap) : Prop where
  inv : AInv c s'
  faults : S'.faults = S.faults
  last : S'.last = S.last
  out : (s'.over = false ∧ CtlAt S' 1 (65537 * (g : Int))) ∨ (s'.over = true ∧ s'.full = true ∧ (g : Int) = c.cap ∧ CtlAt S' 1 (65537 * (g : Int))) ∨
    (s'.over = true ∧ s'.full = false ∧ s'.ticket = (g : Int) ∧ (g : Int) + 1 ≤ c.cap ∧ CtlAt S' 1 (65537 * ((g : Int) + 1)))
theorem look_inv {c : PCfg} {s : PRes} {g : Nat} (hc : s.cfg = c) (hm : s.made = true) (ho : s.over = false) (hg : g ≤ 1000) (hgc : (g : Int) ≤ c.cap) (S S' : PHeap) (hS : S'.faults = S.faults ∧ S'.last = S.last) (hw : CtlAt S' 1 (65537 * (g : Int))) :
    AStep c g S' (s.look (65537 * (g : Int))) S := by
  obtain ⟨k1, k2, k3⟩ := look_cfg s (65537 * (g : Int))
  have hl : s.look (65537 * (g : Int)) = if entOk (65537 * (g : Int)) c.cap then { s with seen := true, was := 65537 * (g : Int), next := entV (65537 * (g : Int)) c.cap } else { s with over := true, full := true, ticket := 0 } := by rw [← hc]; rfl
  cases he : entOk (65537 * (g : Int)) c.cap with
  | true =>
    rw [he] at hl
    simp only [if_true] at hl
    refine ⟨⟨k2.trans hm, k1.trans hc, fun _ _ => ?_⟩, hS.1, hS.2, .inl ⟨by rw [hl]; exact ho, hw⟩⟩
    rw [hl]
    exact ⟨he, rfl⟩
  | false =>
    rw [he] at hl
    simp only [Bool.false_eq_true, if_false] at hl
    have hng : ¬ ((g : Int) < c.cap) := fun h => by
      have := (ent_word g hg c.cap).1.2 h
      rw [he] at this
      cases this
    refine ⟨⟨k2.trans hm, k1.trans hc, fun h => ?_⟩, hS.1, hS.2, .inr (.inl ⟨by rw [hl], by rw [hl], by omega, hw⟩)⟩
    rw [hl] at h
    cases h
theorem apart_step {S : PHeap} {s : PRes} {c : PCfg} {g : Nat} (hw : CtlAt S 1 (65537 * (g : Int))) (hi : AInv c s) (ho : s.over = false) (hg : g ≤ 1000) (hgc : (g : Int) ≤ c.cap) (r : Nat) :
    AStep c g (S.act s.act.1 r).2 (s.take (S.act s.act.1 r).1) S := by
  have hid : s.idle = false := by simp [PRes.idle, hi.made, ho]
  cases hs : s.seen with
  | false =>
    have ha : s.act = (⟨1, 1, ((1 : Nat) : Int), 0, 0, ByteArray.empty⟩, true) := by simp [PRes.act, hid, hs]
    rw [ha, hw.load r]
    have htk : s.take ⟨65537 * (g : Int), ByteArray.empty⟩ = s.look (65537 * (g : Int)) := by simp [PRes.take, hid, hs]
    rw [htk]
    exact look_inv hi.cfg hi.made ho hg hgc S S ⟨rfl, rfl⟩ hw
  | true =>
    have ha : s.act = (⟨3, 1, ((1 : Nat) : Int), s.was, s.next, ByteArray.empty⟩, true) := by simp [PRes.act, hid, hs]
    rw [ha, hw.swap s.was s.next r]
    obtain ⟨e1, e2⟩ := hi.seen ho hs
    by_cases he : 65537 * (g : Int) = s.was
    · have htk : s.take ⟨65537 * (g : Int), ByteArray.empty⟩ = { s with over := true, full := false, ticket := cameOf s.was } := by simp [PRes.take, hid, hs, he]
      rw [htk, if_pos he]
      rw [← he] at e1 e2
      have hlt := (ent_word g hg c.cap).1.1 e1
      rw [(ent_word g hg c.cap).2 e1] at e2
      rw [e2]
      refine ⟨⟨hi.made, hi.cfg, fun h => by cases h⟩, rfl, rfl, .inr (.inr ⟨rfl, rfl, ?_, by omega, hw.same _⟩)⟩
      show cameOf s.was = _
      rw [← he]
      exact (word_nat g hg).1
    · have htk : s.take ⟨65537 * (g : Int), ByteArray.empty⟩ = PRes.look { s with tries := IntKind.i64.wrap (s.tries + 1) } (65537 * (g : Int)) := by simp [PRes.take, hid, hs, he]
      rw [htk, if_neg he]
      exact look_inv (s := { s with tries := IntKind.i64.wrap (s.tries + 1) }) hi.cfg hi.made ho hg hgc S S ⟨rfl, rfl⟩ hw
def ptrL (bs : List Nat) : List Value := bs.map fun b => .pointer (some ⟨b, 0, none⟩)
theorem ptrL_snoc (bs : List Nat) (b : Nat) : ptrL bs ++ [.pointer (some ⟨b, 0, none⟩)] = ptrL (bs ++ [b]) := by simp [ptrL]
/-- The heap, the threads, and the row in which they stand. -/
structure Crowd (w1 : World) (hb : Nat) (S : PHeap) (F : Nat → Prop) (bs : List Nat) (ss : Nat → PRes) (v : Value) (wr : World) : Prop where
  own : Own w1 hb S F wr
  each : ∀ (j : Nat) b, bs[j]? = some b → ResIn wr b (ss j) ∧ ¬ F b ∧ w1.heap.size ≤ b
  nodup : bs.Nodup
  row : wr.ownsRow w1.heap.size 163 1 v bs.length (ptrL bs)
  off : ∀ g, v.ownBlock = some g → ¬ F g ∧ g ∉ bs
theorem Crowd.keep {w1 wr w' : World} {hb : Nat} {S : PHeap} {F : Nat → Prop} {bs : List Nat} {ss : Nat → PRes} {v : Value} (h : Crowd w1 hb S F bs ss v wr) (hb' : Below wr.heap.size wr w') : Crowd w1 hb S F bs ss v w' :=
  ⟨h.own.keep hb', fun j b hj => ⟨(h.each j b hj).1.below hb', (h.each j b hj).2⟩, h.nodup, ⟨h.row.1, h.row.2.imp id fun ⟨g, cap, cur, e1, e2, e3, r⟩ => ⟨g, cap, cur, e1, e2, (hb'.block g (Array.getElem?_eq_some_iff.1 e3).1).trans e3, r⟩⟩, h.off⟩
theorem Crowd.cell {w1 wr : World} {hb : Nat} {S : PHeap} {F : Nat → Prop} {bs : List Nat} {ss : Nat → PRes} {g cap j b : Nat} (h : Crowd w1 hb S F bs ss (.slice (some ⟨g, 0, none⟩) bs.length cap) wr) (hj : bs[j]? = some b) : wr.cell? ⟨g, j, none⟩ = some (.pointer (some ⟨b, 0, none⟩)) := by
  have := h.row.cells (g := g) rfl j (.pointer (some ⟨b, 0, none⟩)) (by simp [ptrL, hj])
  have e2 : (⟨g, 0, none⟩ : Addr).add j = ⟨g, j, none⟩ := by unfold Addr.add; split <;> simp_all
  rw [e2] at this
  exact this
/-- One thread has gone on. -/
theorem Crowd.next {w1 wr w' : World} {hb : Nat} {S S' : PHeap} {F F' D' : Nat → Prop} {bs : List Nat} {ss : Nat → PRes} {v : Value} {j0 b0 : Nat} {s' : PRes} {is : Bool} (h : Crowd w1 hb S F bs ss v wr) (hj0 : bs[j0]? = some b0)
    (hP : NextP resRout w1 wr F (fun k => k = b0) hb b0 S (ss j0) S' s' F' D' is w') : Crowd w1 hb S' F' bs (fun j => if j = j0 then s' else ss j) v w' := by
  obtain ⟨po, pr, pof, ps, pc, _⟩ := hP
  have inj : ∀ j b, bs[j]? = some b → j ≠ j0 → b ≠ b0 := by
    intro j b hj hne e
    subst e
    exact hne <| (List.getElem?_inj (List.getElem?_eq_some_iff.mp hj).1 h.nodup).1 (hj.trans hj0.symm)
  have keepB : ∀ k, k < wr.heap.size → ¬ F k → k ≠ b0 → w'.heap[k]? = wr.heap[k]? ∧ ¬ F' k := by
    intro k hk hF hne
    refine ⟨pc.block k hk (fun h => h.elim hF hne), fun hF' => ?_⟩
    rcases ps k (.inl hF') with h1 | h1 | h1
    · exact hF h1
    · exact hne h1
    · omega
  refine ⟨po, fun j b hj => ?_, h.nodup, ?_, fun g hg => ?_⟩
  · obtain ⟨e1, e2, e3⟩ := h.each j b hj
    by_cases hjj : j = j0
    · subst hjj
      have : b = b0 := by rw [hj] at hj0; injection hj0
      subst this
      rw [if_pos rfl]
      exact ⟨pr.2.2, fun hF' => pof b hF' pr.2.1, e3⟩
    · rw [if_neg hjj]
      obtain ⟨k1, k2⟩ := keepB b e1.blk.lt e2 (inj j b hj hjj)
      exact ⟨e1.keep k1, k2, e3⟩
  · refine ⟨h.row.1, h.row.2.imp id fun ⟨g, cap, cur, e1, e2, e3, r⟩ => ⟨g, cap, cur, e1, e2, ?_, r⟩⟩
    obtain ⟨k1, k2⟩ := h.off g (by rw [e1]; rfl)
    exact (keepB g (Array.getElem?_eq_some_iff.1 e3).1 k1 (fun e => k2 (e ▸ List.mem_of_getElem? hj0))).1.trans e3
  · obtain ⟨k1, k2⟩ := h.off g hg
    exact ⟨(keepB g (World.ownsRow.lt h.row g hg).2 k1 (fun e => k2 (e ▸ List.mem_of_getElem? hj0))).2, k2⟩
/-- The heap has turned by itself. -/
theorem Crowd.turned {w1 wr w' : World} {hb : Nat} {S S' : PHeap} {F : Nat → Prop} {bs : List Nat} {ss : Nat → PRes} {v : Value} (h : Crowd w1 hb S F bs ss v wr) (t : Turned F hb S' wr w') : Crowd w1 hb S' (nw F wr w') bs ss v w' := by
  have keepB : ∀ k, k < wr.heap.size → ¬ F k → w'.heap[k]? = wr.heap[k]? ∧ ¬ nw F wr w' k := by
    intro k hk hF
    refine ⟨t.2.block k hk hF, fun hF' => ?_⟩
    rcases hF' with h1 | h1
    · exact hF h1
    · omega
  refine ⟨h.own.turned t, fun j b hj => ?_, h.nodup, ?_, fun g hg => ?_⟩
  · obtain ⟨e1, e2, e3⟩ := h.each j b hj
    obtain ⟨k1, k2⟩ := keepB b e1.blk.lt e2
    exact ⟨e1.keep k1, k2, e3⟩
  · refine ⟨h.row.1, h.row.2.imp id fun ⟨g, cap, cur, e1, e2, e3, r⟩ => ⟨g, cap, cur, e1, e2, ?_, r⟩⟩
    exact (keepB g (Array.getElem?_eq_some_iff.1 e3).1 (h.off g (by rw [e1]; rfl)).1).1.trans e3
  · exact ⟨(keepB g (World.ownsRow.lt h.row g hg).2 (h.off g hg).1).2, (h.off g hg).2⟩
/-- One thread more. -/
theorem Crowd.more {w1 wr w2 w' : World} {hb : Nat} {S : PHeap} {F : Nat → Prop} {bs : List Nat} {ss : Nat → PRes} {v v' : Value} {b : Nat} {s : PRes} (h : Crowd w1 hb S F bs ss v wr) (hb2 : Below wr.heap.size wr w2) (hN : ResIn w2 b s) (hbb : wr.heap.size ≤ b)
    (hown : w'.ownsRow w1.heap.size 163 1 v' (bs.length + 1) (ptrL (bs ++ [b]))) (hg : w2.grownBy w' v.ownBlock) (hloc : v'.ownBlock = v.ownBlock ∨ v'.ownBlock = some w2.heap.size) :
    Crowd w1 hb S F (bs ++ [b]) (fun j => if j = bs.length then s else ss j) v' w' := by
  have h2 := h.keep hb2
  have hlt := h.own.heap.own
  have hlt2 := h2.own.heap.own
  have hs := hb2.size
  have hw := h.own.below.size
  have hFb : ¬ F b := fun hF => by have := hlt b hF; omega
  have inB : ∀ x ∈ bs, x < wr.heap.size := fun x hx => by
    obtain ⟨j, hj, rfl⟩ := List.getElem_of_mem hx
    exact (h.each j _ (List.getElem?_eq_getElem hj)).1.blk.lt
  have vlt : ∀ g, v.ownBlock = some g → w1.heap.size ≤ g ∧ g < wr.heap.size := fun g hg => World.ownsRow.lt h.row g hg
  have keepB : ∀ k, k < w2.heap.size → some k ≠ v.ownBlock → w'.heap[k]? = w2.heap[k]? := fun k hk hne => hg.block k hk hne
  have hbl : b < w2.heap.size := hN.blk.lt
  refine ⟨⟨h2.own.heap.keep hg.size fun k hk => keepB k (hlt2 k hk) (fun e => (h.off k e.symm).1 hk), h.own.new, ?_⟩, fun j b' hj => ?_, ?_, by rw [List.length_append]; exact hown, fun g hg' => ?_⟩
  · refine ⟨hg.os.trans h2.own.below.os, hg.tape.trans h2.own.below.tape, hg.output.trans h2.own.below.output, Nat.le_trans h2.own.below.size hg.size, fun k hk => (keepB k (Nat.lt_of_lt_of_le hk h2.own.below.size) fun e => ?_).trans (h2.own.below.block k hk)⟩
    have := (vlt k e.symm).1
    omega
  · rcases Nat.lt_or_ge j bs.length with hl | hl
    · rw [List.getElem?_append_left hl] at hj
      rw [if_neg (by omega)]
      obtain ⟨e1, e2, e3⟩ := h2.each j b' hj
      exact ⟨e1.keep (keepB b' e1.blk.lt fun e => (h.off b' e.symm).2 (List.mem_of_getElem? hj)), e2, e3⟩
    · rw [List.getElem?_append_right hl] at hj
      have hj0 : j = bs.length := by
        have := (List.getElem?_eq_some_iff.mp hj).1
        simp at this
        omega
      subst hj0
      simp at hj
      subst hj
      rw [if_pos rfl]
      exact ⟨hN.keep (keepB b hbl fun e => by have := (vlt b e.symm).2; omega), hFb, by omega⟩
  · rw [List.nodup_append]
    refine ⟨h.nodup, by simp, fun a ha b' hb' e => ?_⟩
    simp at hb'
    subst hb'
    have := inB a ha
    omega
  · rcases hloc with e | e
    · rw [e] at hg'
      refine ⟨(h.off g hg').1, fun hm => ?_⟩
      rcases List.mem_append.1 hm with hm | hm
      · exact (h.off g hg').2 hm
      · simp at hm
        have := (vlt g hg').2
        omega
    · rw [e] at hg'
      injection hg' with hg'
      refine ⟨fun hF => by have := hlt g hF; omega, fun hm => ?_⟩
      rcases List.mem_append.1 hm with hm | hm
      · have := inB g hm; omega
      · simp at hm
        omega
end Go.Proofs.Ytfelkkbgbgnpaaa
