import Derived.Test.YtmlnhjfdhjachaaGreatProg
import Derived.Deep.RegionHeld3
import Derived.Test.YtmlnhjfdhjachaaGreatQll11
/-
  A region that draws its order, walked in ONE order that is given: what reads what nobody turns is taken first, all else comes up alone; the condition on the world may grow on the way. No condition.
-/
namespace Go.Proofs.YtmlnhjfdhjachaaGreat
set_option linter.unusedVariables false
open Go.ChangeShapes Go.WideShapes Go.ChangeAt Go.RowKit

theorem wpAnyH_sub {P : Program} {md : Region.Mode} {ops : Array Oper} {Q : Exit → Act → World → Prop} {S S' : World → Prop} (hS : ∀ w, S' w → S w) : ∀ (fuel : Nat) (listed : Array Bool) (a : Act) (w : World), wpAnyH P md ops Q S' fuel listed a w → wpAnyH P md ops Q S fuel listed a w
  | 0, _, _, _, h => h
  | f + 1, _, _, _, h => ⟨h.1, fun i hi => wpOp_mono (fun a' w' h' => ⟨hS _ h'.1, wpAnyH_sub hS f _ a' w' h'.2⟩) (h.2 i hi)⟩
/-- Is the order one that the walk may take? -/
def lexOK (md : Region.Mode) (ops : Array Oper) : List (Bool × Nat) → Array Bool → Bool
  | [], listed => (Region.ready md ops listed).isEmpty
  | (true, k) :: t, listed => (Region.ready md ops listed).contains k && Region.free md ops listed k && lexOK md ops t (listed.setIfInBounds k true)
  | (false, k) :: t, listed => decide (Region.ready md ops listed = [k]) && lexOK md ops t (listed.setIfInBounds k true)
/-- Only the common way out. -/
def OnlyN (R : Act → World → Prop) : Exit → Act → World → Prop
  | .normal, a, w => R a w
  | _, _, _ => False
def wpLex (P : Program) (l : List Oper) (R : Act → World → Prop) : List (Bool × Nat) → (World → Prop) → Act → World → Prop
  | [], _, a, w => R a w
  | (b, k) :: t, S, a, w => ∃ o, l[k]? = some o ∧ (if Region.wanted o (yielded l.toArray a.tmps) = true then
      (if b = true then S w ∧ ∃ v, (∀ w', S w' → (execOp a.eval o).run P w' = .ok (.value v) w') ∧ wpLex P l R t S (a.put o.dst v) w
       else o.wp P a w (fun a' w' => ∃ S' : World → Prop, (∀ w, S' w → S w) ∧ S' w' ∧ wpLex P l R t S' a' w') (OnlyN R))
      else S w ∧ wpLex P l R t S (a.put o.dst undef) w)
section
variable {P : Program} {l : List Oper} {R : Act → World → Prop} {k : Nat} {b : Bool} {t : List (Bool × Nat)} {S : World → Prop} {a : Act} {w : World} {o : Oper} {v : Value}
theorem lex_take (ho : l[k]? = some o) (hw : Region.wanted o (yielded l.toArray a.tmps) = true) (hS : S w)
    (hy : ∀ w', S w' → (execOp a.eval o).run P w' = .ok (.value v) w') (h : wpLex P l R t S (a.put o.dst v) w) : wpLex P l R ((true, k) :: t) S a w := by
  unfold wpLex
  refine ⟨o, ho, ?_⟩
  rw [if_pos hw, if_pos rfl]
  exact ⟨hS, v, hy, h⟩
theorem lex_call (ho : l[k]? = some o) (hw : Region.wanted o (yielded l.toArray a.tmps) = true)
    (h : ∀ K : Act → World → Prop, Hid (∀ (a' : Act) (w' : World) (S' : World → Prop), (∀ w, S' w → S w) → S' w' → wpLex P l R t S' a' w' → K a' w') → o.wp P a w K (OnlyN R)) : wpLex P l R ((false, k) :: t) S a w := by
  unfold wpLex
  refine ⟨o, ho, ?_⟩
  rw [if_pos hw, if_neg (by simp)]
  exact h _ (Lib.hid fun a' w' S' h1 h2 h3 => ⟨S', h1, h2, h3⟩)
theorem lex_end (h : R a w) : wpLex P l R [] S a w := h
/-- It is a wpAnyH. -/
theorem wpAnyH_of_lex {md : Region.Mode} (hs : Region.noSelect l.toArray = true) : ∀ (ord : List (Bool × Nat)) (listed : Array Bool) (S : World → Prop) (a : Act) (w : World), lexOK md l.toArray ord listed = true →
    wpLex P l R ord S a w → wpAnyH P md l.toArray (OnlyN R) S ord.length listed a w
  | [], listed, S, a, w, hB, h => ⟨by simpa [lexOK] using hB, h⟩
  | (true, k) :: t, listed, S, a, w, hB, h => by
    simp only [lexOK, Bool.and_eq_true] at hB
    obtain ⟨⟨hr, hf⟩, hB'⟩ := hB
    obtain ⟨o, ho, h⟩ := h
    have hi : l.toArray[k]? = some o := by simpa using ho
    by_cases hw : Region.wanted o (yielded l.toArray a.tmps) = true
    · rw [if_pos hw, if_pos rfl] at h
      obtain ⟨hS, v, hy, h⟩ := h
      exact wpAnyH_take hi hs hf hr (fun _ _ _ h => h) (Or.inl ⟨hw, hy⟩) hS (wpAnyH_of_lex hs t _ S _ w hB' h)
    · rw [if_neg hw] at h
      obtain ⟨hS, h⟩ := h
      exact wpAnyH_take hi hs hf hr (fun _ _ _ h => h) (Or.inr ⟨by simpa using hw, rfl⟩) hS (wpAnyH_of_lex hs t _ S _ w hB' h)
  | (false, k) :: t, listed, S, a, w, hB, h => by
    simp only [lexOK, Bool.and_eq_true, decide_eq_true_eq] at hB
    obtain ⟨hr, hB'⟩ := hB
    obtain ⟨o, ho, h⟩ := h
    have hi : l.toArray[k]? = some o := by simpa using ho
    refine ⟨fun h0 => (by rw [hr] at h0; cases h0), fun i hir => ?_⟩
    rw [hr] at hir
    have hik : i = k := by simpa using hir
    subst hik
    unfold wpOp
    simp only [hi]
    by_cases hw : Region.wanted o (yielded l.toArray a.tmps) = true
    · rw [if_pos hw] at h ⊢
      rw [if_neg (by simp)] at h
      exact .inl (Oper.wp_mono (fun a' w' ⟨S', h1, h2, h3⟩ => ⟨h1 _ h2, wpAnyH_sub h1 _ _ _ _ (wpAnyH_of_lex hs t _ S' a' w' hB' h3)⟩) h)
    · rw [if_neg hw] at h ⊢
      exact ⟨h.1, wpAnyH_of_lex hs t _ S _ w hB' h.2⟩
end
def lexStart (l : List Oper) (ord : List (Bool × Nat)) : Bool := Region.noSelect l.toArray && decide (ord.length = l.length) && lexOK .any l.toArray ord (Array.replicate l.length false)
/-- THE BEGINNING. -/
theorem wp_region_lex {P : Program} {id : Nat} {Q : Exit → Act → World → Prop} {a : Act} {w : World} {l : List Oper} (ord : List (Bool × Nat)) (S : World → Prop) (hm : P.follows .mixedOrders = true) (hB : lexStart l ord = true)
    (h : ∀ R : Act → World → Prop, Hid (∀ a w, Q .normal a w → R a w) → wpLex P l R ord S a w.drew) : (Code.region id l.toArray true).wp P Q a w := by
  simp only [lexStart, Bool.and_eq_true, decide_eq_true_eq] at hB
  obtain ⟨⟨hs, hl⟩, hB⟩ := hB
  have h1 := wpAnyH_of_lex (md := .any) hs ord _ S a w.drew hB (h (fun a w => Q .normal a w) (Lib.hid fun _ _ h => h))
  rw [hl] at h1
  refine Code.wp_mono (fun e a w h => ?_) (wp_region_held (P := P) (id := id) (ops := l.toArray) (Q := OnlyN fun a w => Q .normal a w) (S := S) (a := a) (w := w) hm (by simp only [List.size_toArray]; exact h1))
  cases e <;> first | exact h | exact (h : False).elim
end Go.Proofs.YtmlnhjfdhjachaaGreat

/-
  The routine that lays changes (layer 30): its next act, part by part. No condition. (Printed by tools/ln.py.)
-/
namespace Go.Proofs.YtmlnhjfdhjachaaGreat
set_option linter.unusedVariables false
open Go.ChangeShapes Go.WideShapes Go.ChangeAt Go.RowKit
open Go.ChangeMaps (setBlock)

set_option maxRecDepth 100000 in
set_option maxHeartbeats 4000000 in
theorem lnAct8_any {w : World} {b : Nat} {c : PCfg} {ep fk fs blk laid : Int} {lv fv vv : Value} (hBc : Blk w b 144 #[.int .i64 c.cap, .int .i64 c.pins, .int .i64 c.shelves, .int .i64 c.queue, .int .i64 c.watchers, .int .u64 c.seed, .int .u64 ep, lv, .int .i64 8, fv, .int .i64 fk, .int .i64 fs, vv, .int .u64 blk, .int .i64 laid]) (hc : c.Right) (hfs : 0 ≤ fs ∧ fs < c.shelves) :
    Calls Tryz.prog 70 #[.pointer (some ⟨b, 0, none⟩)] w fun e w' => e = .returned (.tuple #[.agg #[.int .i64 0, .int .u64 0, .int .i64 0, .int .u64 0, .int .u64 0, .string ⟨#[]⟩], .bool false]) ∧ Below w.heap.size w w' := by
  have hF := fun W => planHead_any c hc fs hfs W
  rw [show c.val = .agg #[.int .i64 c.cap, .int .i64 c.pins, .int .i64 c.shelves, .int .i64 c.queue, .int .i64 c.watchers, .int .u64 c.seed] from rfl] at hF
  have hlt := hBc.lt
  obtain ⟨W, hW⟩ : ∃ W, W = w.alloc (.cells #[.int .i64 0, .int .u64 0, .int .i64 0, .int .u64 0, .int .u64 0, .string ⟨#[]⟩] 31) := ⟨_, rfl⟩
  have hBw := hBc.alloc (.cells #[.int .i64 0, .int .u64 0, .int .i64 0, .int .u64 0, .int .u64 0, .string ⟨#[]⟩] 31)
  have B0w := Blk.new w 31 #[.int .i64 0, .int .u64 0, .int .i64 0, .int .u64 0, .int .u64 0, .string ⟨#[]⟩]
  have hzw : Below w.heap.size w (w.alloc (.cells #[.int .i64 0, .int .u64 0, .int .i64 0, .int .u64 0, .int .u64 0, .string ⟨#[]⟩] 31)) := (Below.refl _ _).alloc (Nat.le_refl _) _
  rw [← hW] at hBw B0w hzw
  have hK : ∀ W1 : World, Below W.heap.size W W1 → (fun W : World => W.cell? ⟨b, 0, none⟩ = some (.int .i64 c.cap) ∧ W.cell? ⟨b, 1, none⟩ = some (.int .i64 c.pins) ∧ W.cell? ⟨b, 2, none⟩ = some (.int .i64 c.shelves) ∧ W.cell? ⟨b, 3, none⟩ = some (.int .i64 c.queue) ∧ W.cell? ⟨b, 4, none⟩ = some (.int .i64 c.watchers) ∧ W.cell? ⟨b, 5, none⟩ = some (.int .u64 c.seed) ∧ W.cell? ⟨b, 11, none⟩ = some (.int .i64 fs)) W1 := fun W1 hb => ⟨(hBw.below hb hBw.lt).cell 0, (hBw.below hb hBw.lt).cell 1, (hBw.below hb hBw.lt).cell 2, (hBw.below hb hBw.lt).cell 3, (hBw.below hb hBw.lt).cell 4, (hBw.below hb hBw.lt).cell 5, (hBw.below hb hBw.lt).cell 11⟩
  have s0 := hK W (Below.refl _ _)
  replace hBc := Lib.hid hBc
  replace hF := Lib.hid hF
  replace B0w := Lib.hid B0w
  replace hzw := Lib.hid hzw
  replace hK := Lib.hid hK
  replace hBw := Lib.hid hBw
  go_enter Tryz.func70, Tryz.ntmps70
  go_upto_region 3 with fail
  rw [← hW]
  replace hW := Lib.hid hW
  go_region_held3 (fun W : World => W.cell? ⟨b, 0, none⟩ = some (.int .i64 c.cap) ∧ W.cell? ⟨b, 1, none⟩ = some (.int .i64 c.pins) ∧ W.cell? ⟨b, 2, none⟩ = some (.int .i64 c.shelves) ∧ W.cell? ⟨b, 3, none⟩ = some (.int .i64 c.queue) ∧ W.cell? ⟨b, 4, none⟩ = some (.int .i64 c.watchers) ∧ W.cell? ⟨b, 5, none⟩ = some (.int .u64 c.seed) ∧ W.cell? ⟨b, 11, none⟩ = some (.int .i64 fs)) (first | assumption | go_keep) (first | (go_at_call 82; refine (hF.out _).mono ?_; rintro e w1 ⟨rfl, hb⟩; have o1 : Below W.heap.size W w1 := (by first | exact hb | exact (Below.refl _ _).drew.trans hb | exact (below_drewN (Below.refl _ _) _).trans hb); have s1 := hK.out _ o1; clear hb; replace o1 := Lib.hid o1))
  all_goals
    clear s0
    have L1 := hBw.out.below o1.out hBw.out.lt
    have B1 := B0w.out.below o1.out B0w.out.lt
    have hb1 := Below.next_ hzw.out o1.out
    have hltw := L1.lt
    have l8 := L1.cell 8
    replace L1 := Lib.hid L1
    replace B1 := Lib.hid B1
    replace hb1 := Lib.hid hb1
    clear s1
    have b1c0 := B1.out.cell 0
    have b1c1 := B1.out.cell 1
    have b1c2 := B1.out.cell 2
    have b1c3 := B1.out.cell 3
    have b1c4 := B1.out.cell 4
    have b1c5 := B1.out.cell 5
    have b1f0 := B1.out.frozen 0
    have b1f1 := B1.out.frozen 1
    have b1f2 := B1.out.frozen 2
    have b1f3 := B1.out.frozen 3
    have b1f4 := B1.out.frozen 4
    have b1f5 := B1.out.frozen 5
    have hlR := B1.out.lt
    go_wp2_with fail
    refine gen_world (α := fun W' => bodyPost _ _ _ _ _ W') (fun W' => Blk W' w.heap.size 31 #[.int .i64 0, .int .u64 0, .int .i64 0, .int .u64 0, .int .u64 0, .string ⟨#[]⟩] ∧ Below w.heap.size w W') ⟨?_, ?_⟩ ?_
    · refine Blk.eq_cs (cs := ((((((#[.int .i64 0, .int .u64 0, .int .i64 0, .int .u64 0, .int .u64 0, .string ⟨#[]⟩] : Array Value).setIfInBounds 0 (.int .i64 0)).setIfInBounds 1 (.int .u64 0)).setIfInBounds 2 (.int .i64 0)).setIfInBounds 3 (.int .u64 0)).setIfInBounds 4 (.int .u64 0)).setIfInBounds 5 (.string ⟨#[]⟩)) ?_ rfl
      have hB := B1.out
      (repeat first | with_reducible exact hB | with_reducible refine Blk.drewN ?_ _ | with_reducible refine Blk.drew ?_ | with_reducible refine Blk.alloc ?_ _ | with_reducible refine Blk.set_ ?_ _ _ | refine Blk.far ?_ (by simp; omega) _)
    · have hB := hb1.out
      repeat first | with_reducible exact hB | with_reducible refine Below.drew ?_ | with_reducible refine below_drewN ?_ _ | refine Below.setCell ?_ (by exact Nat.le_refl _) _
    rintro W' ⟨g1, g2⟩
    have e0 := g1.cell 0
    have e1 := g1.cell 1
    have e2 := g1.cell 2
    have e3 := g1.cell 3
    have e4 := g1.cell 4
    have e5 := g1.cell 5
    exact bodyPost_ret (v := .tuple #[.agg #[.int .i64 0, .int .u64 0, .int .i64 0, .int .u64 0, .int .u64 0, .string ⟨#[]⟩], .bool false]) (by simp [results, Tryz.results70, go_sem, e0, e1, e2, e3, e4, e5]) rfl ⟨rfl, g2⟩
set_option maxRecDepth 100000 in
set_option maxHeartbeats 4000000 in
theorem lnAct2_any {w : World} {b : Nat} {c : PCfg} {ep fk fs blk laid : Int} {lv fv vv : Value} (hBc : Blk w b 144 #[.int .i64 c.cap, .int .i64 c.pins, .int .i64 c.shelves, .int .i64 c.queue, .int .i64 c.watchers, .int .u64 c.seed, .int .u64 ep, lv, .int .i64 2, fv, .int .i64 fk, .int .i64 fs, vv, .int .u64 blk, .int .i64 laid]) (hc : c.Right) (hfs : 0 ≤ fs ∧ fs < c.shelves) :
    Calls Tryz.prog 70 #[.pointer (some ⟨b, 0, none⟩)] w fun e w' => e = .returned (.tuple #[.agg #[.int .i64 1, .int .u64 1, .int .i64 (3 + c.pins + c.cap + 2 * fs + 1), .int .u64 0, .int .u64 0, .string ⟨#[]⟩], .bool true]) ∧ Below w.heap.size w w' := by
  have hF := fun W => planHead_any c hc fs hfs W
  rw [show c.val = .agg #[.int .i64 c.cap, .int .i64 c.pins, .int .i64 c.shelves, .int .i64 c.queue, .int .i64 c.watchers, .int .u64 c.seed] from rfl] at hF
  have hlt := hBc.lt
  obtain ⟨W, hW⟩ : ∃ W, W = w.alloc (.cells #[.int .i64 0, .int .u64 0, .int .i64 0, .int .u64 0, .int .u64 0, .string ⟨#[]⟩] 31) := ⟨_, rfl⟩
  have hBw := hBc.alloc (.cells #[.int .i64 0, .int .u64 0, .int .i64 0, .int .u64 0, .int .u64 0, .string ⟨#[]⟩] 31)
  have B0w := Blk.new w 31 #[.int .i64 0, .int .u64 0, .int .i64 0, .int .u64 0, .int .u64 0, .string ⟨#[]⟩]
  have hzw : Below w.heap.size w (w.alloc (.cells #[.int .i64 0, .int .u64 0, .int .i64 0, .int .u64 0, .int .u64 0, .string ⟨#[]⟩] 31)) := (Below.refl _ _).alloc (Nat.le_refl _) _
  rw [← hW] at hBw B0w hzw
  have hK : ∀ W1 : World, Below W.heap.size W W1 → (fun W : World => W.cell? ⟨b, 0, none⟩ = some (.int .i64 c.cap) ∧ W.cell? ⟨b, 1, none⟩ = some (.int .i64 c.pins) ∧ W.cell? ⟨b, 2, none⟩ = some (.int .i64 c.shelves) ∧ W.cell? ⟨b, 3, none⟩ = some (.int .i64 c.queue) ∧ W.cell? ⟨b, 4, none⟩ = some (.int .i64 c.watchers) ∧ W.cell? ⟨b, 5, none⟩ = some (.int .u64 c.seed) ∧ W.cell? ⟨b, 11, none⟩ = some (.int .i64 fs)) W1 := fun W1 hb => ⟨(hBw.below hb hBw.lt).cell 0, (hBw.below hb hBw.lt).cell 1, (hBw.below hb hBw.lt).cell 2, (hBw.below hb hBw.lt).cell 3, (hBw.below hb hBw.lt).cell 4, (hBw.below hb hBw.lt).cell 5, (hBw.below hb hBw.lt).cell 11⟩
  have s0 := hK W (Below.refl _ _)
  replace hBc := Lib.hid hBc
  replace hF := Lib.hid hF
  replace B0w := Lib.hid B0w
  replace hzw := Lib.hid hzw
  replace hK := Lib.hid hK
  replace hBw := Lib.hid hBw
  go_enter Tryz.func70, Tryz.ntmps70
  go_upto_region 3 with fail
  rw [← hW]
  replace hW := Lib.hid hW
  go_region_held3 (fun W : World => W.cell? ⟨b, 0, none⟩ = some (.int .i64 c.cap) ∧ W.cell? ⟨b, 1, none⟩ = some (.int .i64 c.pins) ∧ W.cell? ⟨b, 2, none⟩ = some (.int .i64 c.shelves) ∧ W.cell? ⟨b, 3, none⟩ = some (.int .i64 c.queue) ∧ W.cell? ⟨b, 4, none⟩ = some (.int .i64 c.watchers) ∧ W.cell? ⟨b, 5, none⟩ = some (.int .u64 c.seed) ∧ W.cell? ⟨b, 11, none⟩ = some (.int .i64 fs)) (first | assumption | go_keep) (first | (go_at_call 82; refine (hF.out _).mono ?_; rintro e w1 ⟨rfl, hb⟩; have o1 : Below W.heap.size W w1 := (by first | exact hb | exact (Below.refl _ _).drew.trans hb | exact (below_drewN (Below.refl _ _) _).trans hb); have s1 := hK.out _ o1; clear hb; replace o1 := Lib.hid o1))
  all_goals
    clear s0
    have L1 := hBw.out.below o1.out hBw.out.lt
    have B1 := B0w.out.below o1.out B0w.out.lt
    have hb1 := Below.next_ hzw.out o1.out
    have hltw := L1.lt
    have l8 := L1.cell 8
    replace L1 := Lib.hid L1
    replace B1 := Lib.hid B1
    replace hb1 := Lib.hid hb1
    clear s1
    have b1c0 := B1.out.cell 0
    have b1c1 := B1.out.cell 1
    have b1c2 := B1.out.cell 2
    have b1c3 := B1.out.cell 3
    have b1c4 := B1.out.cell 4
    have b1c5 := B1.out.cell 5
    have b1f0 := B1.out.frozen 0
    have b1f1 := B1.out.frozen 1
    have b1f2 := B1.out.frozen 2
    have b1f3 := B1.out.frozen 3
    have b1f4 := B1.out.frozen 4
    have b1f5 := B1.out.frozen 5
    have hlR := B1.out.lt
    go_wp2_with fail
    refine gen_world (α := fun W' => bodyPost _ _ _ _ _ W') (fun W' => Blk W' w.heap.size 31 #[.int .i64 1, .int .u64 1, .int .i64 (3 + c.pins + c.cap + 2 * fs + 1), .int .u64 0, .int .u64 0, .string ⟨#[]⟩] ∧ Below w.heap.size w W') ⟨?_, ?_⟩ ?_
    · refine Blk.eq_cs (cs := ((((((#[.int .i64 0, .int .u64 0, .int .i64 0, .int .u64 0, .int .u64 0, .string ⟨#[]⟩] : Array Value).setIfInBounds 0 (.int .i64 1)).setIfInBounds 1 (.int .u64 1)).setIfInBounds 2 (.int .i64 (3 + c.pins + c.cap + 2 * fs + 1))).setIfInBounds 3 (.int .u64 0)).setIfInBounds 4 (.int .u64 0)).setIfInBounds 5 (.string ⟨#[]⟩)) ?_ rfl
      have hB := B1.out
      (repeat first | with_reducible exact hB | with_reducible refine Blk.drewN ?_ _ | with_reducible refine Blk.drew ?_ | with_reducible refine Blk.alloc ?_ _ | with_reducible refine Blk.set_ ?_ _ _ | refine Blk.far ?_ (by simp; omega) _)
    · have hB := hb1.out
      repeat first | with_reducible exact hB | with_reducible refine Below.drew ?_ | with_reducible refine below_drewN ?_ _ | refine Below.setCell ?_ (by exact Nat.le_refl _) _
    rintro W' ⟨g1, g2⟩
    have e0 := g1.cell 0
    have e1 := g1.cell 1
    have e2 := g1.cell 2
    have e3 := g1.cell 3
    have e4 := g1.cell 4
    have e5 := g1.cell 5
    exact bodyPost_ret (v := .tuple #[.agg #[.int .i64 1, .int .u64 1, .int .i64 (3 + c.pins + c.cap + 2 * fs + 1), .int .u64 0, .int .u64 0, .string ⟨#[]⟩], .bool true]) (by simp [results, Tryz.results70, go_sem, e0, e1, e2, e3, e4, e5]) rfl ⟨rfl, g2⟩
set_option maxRecDepth 100000 in
set_option maxHeartbeats 4000000 in
theorem lnAct4_any {w : World} {b : Nat} {c : PCfg} {ep fk fs blk laid : Int} {lv fv vv : Value} (hBc : Blk w b 144 #[.int .i64 c.cap, .int .i64 c.pins, .int .i64 c.shelves, .int .i64 c.queue, .int .i64 c.watchers, .int .u64 c.seed, .int .u64 ep, lv, .int .i64 4, fv, .int .i64 fk, .int .i64 fs, vv, .int .u64 blk, .int .i64 laid]) (hc : c.Right) (hfs : 0 ≤ fs ∧ fs < c.shelves) :
    Calls Tryz.prog 70 #[.pointer (some ⟨b, 0, none⟩)] w fun e w' => e = .returned (.tuple #[.agg #[.int .i64 2, .int .u64 1, .int .i64 (3 + c.pins + c.cap + 2 * fs + 1), .int .u64 0, .int .u64 blk, .string ⟨#[]⟩], .bool true]) ∧ Below w.heap.size w w' := by
  have hF := fun W => planHead_any c hc fs hfs W
  rw [show c.val = .agg #[.int .i64 c.cap, .int .i64 c.pins, .int .i64 c.shelves, .int .i64 c.queue, .int .i64 c.watchers, .int .u64 c.seed] from rfl] at hF
  have hlt := hBc.lt
  obtain ⟨W, hW⟩ : ∃ W, W = w.alloc (.cells #[.int .i64 0, .int .u64 0, .int .i64 0, .int .u64 0, .int .u64 0, .string ⟨#[]⟩] 31) := ⟨_, rfl⟩
  have hBw := hBc.alloc (.cells #[.int .i64 0, .int .u64 0, .int .i64 0, .int .u64 0, .int .u64 0, .string ⟨#[]⟩] 31)
  have B0w := Blk.new w 31 #[.int .i64 0, .int .u64 0, .int .i64 0, .int .u64 0, .int .u64 0, .string ⟨#[]⟩]
  have hzw : Below w.heap.size w (w.alloc (.cells #[.int .i64 0, .int .u64 0, .int .i64 0, .int .u64 0, .int .u64 0, .string ⟨#[]⟩] 31)) := (Below.refl _ _).alloc (Nat.le_refl _) _
  rw [← hW] at hBw B0w hzw
  have hK : ∀ W1 : World, Below W.heap.size W W1 → (fun W : World => W.cell? ⟨b, 0, none⟩ = some (.int .i64 c.cap) ∧ W.cell? ⟨b, 1, none⟩ = some (.int .i64 c.pins) ∧ W.cell? ⟨b, 2, none⟩ = some (.int .i64 c.shelves) ∧ W.cell? ⟨b, 3, none⟩ = some (.int .i64 c.queue) ∧ W.cell? ⟨b, 4, none⟩ = some (.int .i64 c.watchers) ∧ W.cell? ⟨b, 5, none⟩ = some (.int .u64 c.seed) ∧ W.cell? ⟨b, 11, none⟩ = some (.int .i64 fs)) W1 := fun W1 hb => ⟨(hBw.below hb hBw.lt).cell 0, (hBw.below hb hBw.lt).cell 1, (hBw.below hb hBw.lt).cell 2, (hBw.below hb hBw.lt).cell 3, (hBw.below hb hBw.lt).cell 4, (hBw.below hb hBw.lt).cell 5, (hBw.below hb hBw.lt).cell 11⟩
  have s0 := hK W (Below.refl _ _)
  replace hBc := Lib.hid hBc
  replace hF := Lib.hid hF
  replace B0w := Lib.hid B0w
  replace hzw := Lib.hid hzw
  replace hK := Lib.hid hK
  replace hBw := Lib.hid hBw
  go_enter Tryz.func70, Tryz.ntmps70
  go_upto_region 3 with fail
  rw [← hW]
  replace hW := Lib.hid hW
  go_region_held3 (fun W : World => W.cell? ⟨b, 0, none⟩ = some (.int .i64 c.cap) ∧ W.cell? ⟨b, 1, none⟩ = some (.int .i64 c.pins) ∧ W.cell? ⟨b, 2, none⟩ = some (.int .i64 c.shelves) ∧ W.cell? ⟨b, 3, none⟩ = some (.int .i64 c.queue) ∧ W.cell? ⟨b, 4, none⟩ = some (.int .i64 c.watchers) ∧ W.cell? ⟨b, 5, none⟩ = some (.int .u64 c.seed) ∧ W.cell? ⟨b, 11, none⟩ = some (.int .i64 fs)) (first | assumption | go_keep) (first | (go_at_call 82; refine (hF.out _).mono ?_; rintro e w1 ⟨rfl, hb⟩; have o1 : Below W.heap.size W w1 := (by first | exact hb | exact (Below.refl _ _).drew.trans hb | exact (below_drewN (Below.refl _ _) _).trans hb); have s1 := hK.out _ o1; clear hb; replace o1 := Lib.hid o1))
  all_goals
    clear s0
    have L1 := hBw.out.below o1.out hBw.out.lt
    have B1 := B0w.out.below o1.out B0w.out.lt
    have hb1 := Below.next_ hzw.out o1.out
    have hltw := L1.lt
    have l8 := L1.cell 8
    replace L1 := Lib.hid L1
    replace B1 := Lib.hid B1
    replace hb1 := Lib.hid hb1
    clear s1
    have l13 := L1.out.cell 13
    have hSt := fun W (_ : Below w.heap.size w W) => layStore_any (3 + c.pins + c.cap + 2 * fs + 1) blk W
    replace hSt := Lib.hid hSt
    go_wp2_with fail
    refine (hSt.out _ (by first | exact hb1.out | exact hb1.out.drew | exact below_drewN hb1.out _)).mono ?_; rintro e w2 ⟨rfl, hX⟩
    have hX2 : Below w1.heap.size w1 w2 := (by first | exact hX | exact (Below.refl _ _).drew.trans hX | exact (below_drewN (Below.refl _ _) _).trans hX)
    have B2 := B1.out.below hX2 B1.out.lt
    have hb2 := Below.next_ hb1.out hX2
    clear hX hX2 B1 hb1
    replace B2 := Lib.hid B2
    replace hb2 := Lib.hid hb2
    have b1c0 := B2.out.cell 0
    have b1c1 := B2.out.cell 1
    have b1c2 := B2.out.cell 2
    have b1c3 := B2.out.cell 3
    have b1c4 := B2.out.cell 4
    have b1c5 := B2.out.cell 5
    have b1f0 := B2.out.frozen 0
    have b1f1 := B2.out.frozen 1
    have b1f2 := B2.out.frozen 2
    have b1f3 := B2.out.frozen 3
    have b1f4 := B2.out.frozen 4
    have b1f5 := B2.out.frozen 5
    have hlR := B2.out.lt
    go_wp2_with fail
    refine gen_world (α := fun W' => bodyPost _ _ _ _ _ W') (fun W' => Blk W' w.heap.size 31 #[.int .i64 2, .int .u64 1, .int .i64 (3 + c.pins + c.cap + 2 * fs + 1), .int .u64 0, .int .u64 blk, .string ⟨#[]⟩] ∧ Below w.heap.size w W') ⟨?_, ?_⟩ ?_
    · refine Blk.eq_cs (cs := ((((((#[.int .i64 0, .int .u64 0, .int .i64 0, .int .u64 0, .int .u64 0, .string ⟨#[]⟩] : Array Value).setIfInBounds 0 (.int .i64 2)).setIfInBounds 1 (.int .u64 1)).setIfInBounds 2 (.int .i64 (3 + c.pins + c.cap + 2 * fs + 1))).setIfInBounds 3 (.int .u64 0)).setIfInBounds 4 (.int .u64 blk)).setIfInBounds 5 (.string ⟨#[]⟩)) ?_ rfl
      have hB := B2.out
      (repeat first | with_reducible exact hB | with_reducible refine Blk.drewN ?_ _ | with_reducible refine Blk.drew ?_ | with_reducible refine Blk.alloc ?_ _ | with_reducible refine Blk.set_ ?_ _ _ | refine Blk.far ?_ (by simp; omega) _)
    · have hB := hb2.out
      repeat first | with_reducible exact hB | with_reducible refine Below.drew ?_ | with_reducible refine below_drewN ?_ _ | refine Below.setCell ?_ (by exact Nat.le_refl _) _
    rintro W' ⟨g1, g2⟩
    have e0 := g1.cell 0
    have e1 := g1.cell 1
    have e2 := g1.cell 2
    have e3 := g1.cell 3
    have e4 := g1.cell 4
    have e5 := g1.cell 5
    exact bodyPost_ret (v := .tuple #[.agg #[.int .i64 2, .int .u64 1, .int .i64 (3 + c.pins + c.cap + 2 * fs + 1), .int .u64 0, .int .u64 blk, .string ⟨#[]⟩], .bool true]) (by simp [results, Tryz.results70, go_sem, e0, e1, e2, e3, e4, e5]) rfl ⟨rfl, g2⟩
set_option maxRecDepth 100000 in
set_option maxHeartbeats 4000000 in
theorem lnAct7_any {w : World} {b : Nat} {c : PCfg} {ep fk fs blk laid : Int} {lv fv vv : Value} (hBc : Blk w b 144 #[.int .i64 c.cap, .int .i64 c.pins, .int .i64 c.shelves, .int .i64 c.queue, .int .i64 c.watchers, .int .u64 c.seed, .int .u64 ep, lv, .int .i64 7, fv, .int .i64 fk, .int .i64 fs, vv, .int .u64 blk, .int .i64 laid]) (hc : c.Right) (hfs : 0 ≤ fs ∧ fs < c.shelves) :
    Calls Tryz.prog 70 #[.pointer (some ⟨b, 0, none⟩)] w fun e w' => e = .returned (.tuple #[.agg #[.int .i64 2, .int .u64 1, .int .i64 0, .int .u64 0, .int .u64 ep, .string ⟨#[]⟩], .bool true]) ∧ Below w.heap.size w w' := by
  have hF := fun W => planHead_any c hc fs hfs W
  rw [show c.val = .agg #[.int .i64 c.cap, .int .i64 c.pins, .int .i64 c.shelves, .int .i64 c.queue, .int .i64 c.watchers, .int .u64 c.seed] from rfl] at hF
  have hlt := hBc.lt
  obtain ⟨W, hW⟩ : ∃ W, W = w.alloc (.cells #[.int .i64 0, .int .u64 0, .int .i64 0, .int .u64 0, .int .u64 0, .string ⟨#[]⟩] 31) := ⟨_, rfl⟩
  have hBw := hBc.alloc (.cells #[.int .i64 0, .int .u64 0, .int .i64 0, .int .u64 0, .int .u64 0, .string ⟨#[]⟩] 31)
  have B0w := Blk.new w 31 #[.int .i64 0, .int .u64 0, .int .i64 0, .int .u64 0, .int .u64 0, .string ⟨#[]⟩]
  have hzw : Below w.heap.size w (w.alloc (.cells #[.int .i64 0, .int .u64 0, .int .i64 0, .int .u64 0, .int .u64 0, .string ⟨#[]⟩] 31)) := (Below.refl _ _).alloc (Nat.le_refl _) _
  rw [← hW] at hBw B0w hzw
  have hK : ∀ W1 : World, Below W.heap.size W W1 → (fun W : World => W.cell? ⟨b, 0, none⟩ = some (.int .i64 c.cap) ∧ W.cell? ⟨b, 1, none⟩ = some (.int .i64 c.pins) ∧ W.cell? ⟨b, 2, none⟩ = some (.int .i64 c.shelves) ∧ W.cell? ⟨b, 3, none⟩ = some (.int .i64 c.queue) ∧ W.cell? ⟨b, 4, none⟩ = some (.int .i64 c.watchers) ∧ W.cell? ⟨b, 5, none⟩ = some (.int .u64 c.seed) ∧ W.cell? ⟨b, 11, none⟩ = some (.int .i64 fs)) W1 := fun W1 hb => ⟨(hBw.below hb hBw.lt).cell 0, (hBw.below hb hBw.lt).cell 1, (hBw.below hb hBw.lt).cell 2, (hBw.below hb hBw.lt).cell 3, (hBw.below hb hBw.lt).cell 4, (hBw.below hb hBw.lt).cell 5, (hBw.below hb hBw.lt).cell 11⟩
  have s0 := hK W (Below.refl _ _)
  replace hBc := Lib.hid hBc
  replace hF := Lib.hid hF
  replace B0w := Lib.hid B0w
  replace hzw := Lib.hid hzw
  replace hK := Lib.hid hK
  replace hBw := Lib.hid hBw
  go_enter Tryz.func70, Tryz.ntmps70
  go_upto_region 3 with fail
  rw [← hW]
  replace hW := Lib.hid hW
  go_region_held3 (fun W : World => W.cell? ⟨b, 0, none⟩ = some (.int .i64 c.cap) ∧ W.cell? ⟨b, 1, none⟩ = some (.int .i64 c.pins) ∧ W.cell? ⟨b, 2, none⟩ = some (.int .i64 c.shelves) ∧ W.cell? ⟨b, 3, none⟩ = some (.int .i64 c.queue) ∧ W.cell? ⟨b, 4, none⟩ = some (.int .i64 c.watchers) ∧ W.cell? ⟨b, 5, none⟩ = some (.int .u64 c.seed) ∧ W.cell? ⟨b, 11, none⟩ = some (.int .i64 fs)) (first | assumption | go_keep) (first | (go_at_call 82; refine (hF.out _).mono ?_; rintro e w1 ⟨rfl, hb⟩; have o1 : Below W.heap.size W w1 := (by first | exact hb | exact (Below.refl _ _).drew.trans hb | exact (below_drewN (Below.refl _ _) _).trans hb); have s1 := hK.out _ o1; clear hb; replace o1 := Lib.hid o1))
  all_goals
    clear s0
    have L1 := hBw.out.below o1.out hBw.out.lt
    have B1 := B0w.out.below o1.out B0w.out.lt
    have hb1 := Below.next_ hzw.out o1.out
    have hltw := L1.lt
    have l8 := L1.cell 8
    replace L1 := Lib.hid L1
    replace B1 := Lib.hid B1
    replace hb1 := Lib.hid hb1
    clear s1
    have l6 := L1.out.cell 6
    have hSt := fun W (_ : Below w.heap.size w W) => layStore_any 0 ep W
    replace hSt := Lib.hid hSt
    go_wp2_with fail
    refine (hSt.out _ (by first | exact hb1.out | exact hb1.out.drew | exact below_drewN hb1.out _)).mono ?_; rintro e w2 ⟨rfl, hX⟩
    have hX2 : Below w1.heap.size w1 w2 := (by first | exact hX | exact (Below.refl _ _).drew.trans hX | exact (below_drewN (Below.refl _ _) _).trans hX)
    have B2 := B1.out.below hX2 B1.out.lt
    have hb2 := Below.next_ hb1.out hX2
    clear hX hX2 B1 hb1
    replace B2 := Lib.hid B2
    replace hb2 := Lib.hid hb2
    have b1c0 := B2.out.cell 0
    have b1c1 := B2.out.cell 1
    have b1c2 := B2.out.cell 2
    have b1c3 := B2.out.cell 3
    have b1c4 := B2.out.cell 4
    have b1c5 := B2.out.cell 5
    have b1f0 := B2.out.frozen 0
    have b1f1 := B2.out.frozen 1
    have b1f2 := B2.out.frozen 2
    have b1f3 := B2.out.frozen 3
    have b1f4 := B2.out.frozen 4
    have b1f5 := B2.out.frozen 5
    have hlR := B2.out.lt
    go_wp2_with fail
    refine gen_world (α := fun W' => bodyPost _ _ _ _ _ W') (fun W' => Blk W' w.heap.size 31 #[.int .i64 2, .int .u64 1, .int .i64 0, .int .u64 0, .int .u64 ep, .string ⟨#[]⟩] ∧ Below w.heap.size w W') ⟨?_, ?_⟩ ?_
    · refine Blk.eq_cs (cs := ((((((#[.int .i64 0, .int .u64 0, .int .i64 0, .int .u64 0, .int .u64 0, .string ⟨#[]⟩] : Array Value).setIfInBounds 0 (.int .i64 2)).setIfInBounds 1 (.int .u64 1)).setIfInBounds 2 (.int .i64 0)).setIfInBounds 3 (.int .u64 0)).setIfInBounds 4 (.int .u64 ep)).setIfInBounds 5 (.string ⟨#[]⟩)) ?_ rfl
      have hB := B2.out
      (repeat first | with_reducible exact hB | with_reducible refine Blk.drewN ?_ _ | with_reducible refine Blk.drew ?_ | with_reducible refine Blk.alloc ?_ _ | with_reducible refine Blk.set_ ?_ _ _ | refine Blk.far ?_ (by simp; omega) _)
    · have hB := hb2.out
      repeat first | with_reducible exact hB | with_reducible refine Below.drew ?_ | with_reducible refine below_drewN ?_ _ | refine Below.setCell ?_ (by exact Nat.le_refl _) _
    rintro W' ⟨g1, g2⟩
    have e0 := g1.cell 0
    have e1 := g1.cell 1
    have e2 := g1.cell 2
    have e3 := g1.cell 3
    have e4 := g1.cell 4
    have e5 := g1.cell 5
    exact bodyPost_ret (v := .tuple #[.agg #[.int .i64 2, .int .u64 1, .int .i64 0, .int .u64 0, .int .u64 ep, .string ⟨#[]⟩], .bool true]) (by simp [results, Tryz.results70, go_sem, e0, e1, e2, e3, e4, e5]) rfl ⟨rfl, g2⟩
set_option maxRecDepth 100000 in
set_option maxHeartbeats 4000000 in
theorem lnAct1_any {w : World} {b : Nat} {c : PCfg} {ep fk fs blk laid : Int} {lv vv : Value} {rb : Nat} {xk xb xc xo xn : Int} {xt : ByteArray} {mo : Bool} (hBc : Blk w b 144 #[.int .i64 c.cap, .int .i64 c.pins, .int .i64 c.shelves, .int .i64 c.queue, .int .i64 c.watchers, .int .u64 c.seed, .int .u64 ep, lv, .int .i64 1, .pointer (some ⟨rb, 0, none⟩), .int .i64 fk, .int .i64 fs, vv, .int .u64 blk, .int .i64 laid]) (hc : c.Right) (hfs : 0 ≤ fs ∧ fs < c.shelves)
    (hA : ∀ W, Below w.heap.size w W → Calls Tryz.prog 104 #[.pointer (some ⟨rb, 0, none⟩)] W fun e w' => e = .returned (.tuple #[.agg #[.int .i64 xk, .int .u64 xb, .int .i64 xc, .int .u64 xo, .int .u64 xn, .string xt], .bool mo]) ∧ Below W.heap.size W w') :
    Calls Tryz.prog 70 #[.pointer (some ⟨b, 0, none⟩)] w fun e w' => e = .returned (.tuple #[.agg #[.int .i64 xk, .int .u64 xb, .int .i64 xc, .int .u64 xo, .int .u64 xn, .string xt], .bool mo]) ∧ Below w.heap.size w w' := by
  have hF := fun W => planHead_any c hc fs hfs W
  rw [show c.val = .agg #[.int .i64 c.cap, .int .i64 c.pins, .int .i64 c.shelves, .int .i64 c.queue, .int .i64 c.watchers, .int .u64 c.seed] from rfl] at hF
  have hlt := hBc.lt
  obtain ⟨W, hW⟩ : ∃ W, W = w.alloc (.cells #[.int .i64 0, .int .u64 0, .int .i64 0, .int .u64 0, .int .u64 0, .string ⟨#[]⟩] 31) := ⟨_, rfl⟩
  have hBw := hBc.alloc (.cells #[.int .i64 0, .int .u64 0, .int .i64 0, .int .u64 0, .int .u64 0, .string ⟨#[]⟩] 31)
  have B0w := Blk.new w 31 #[.int .i64 0, .int .u64 0, .int .i64 0, .int .u64 0, .int .u64 0, .string ⟨#[]⟩]
  have hzw : Below w.heap.size w (w.alloc (.cells #[.int .i64 0, .int .u64 0, .int .i64 0, .int .u64 0, .int .u64 0, .string ⟨#[]⟩] 31)) := (Below.refl _ _).alloc (Nat.le_refl _) _
  rw [← hW] at hBw B0w hzw
  have hK : ∀ W1 : World, Below W.heap.size W W1 → (fun W : World => W.cell? ⟨b, 0, none⟩ = some (.int .i64 c.cap) ∧ W.cell? ⟨b, 1, none⟩ = some (.int .i64 c.pins) ∧ W.cell? ⟨b, 2, none⟩ = some (.int .i64 c.shelves) ∧ W.cell? ⟨b, 3, none⟩ = some (.int .i64 c.queue) ∧ W.cell? ⟨b, 4, none⟩ = some (.int .i64 c.watchers) ∧ W.cell? ⟨b, 5, none⟩ = some (.int .u64 c.seed) ∧ W.cell? ⟨b, 11, none⟩ = some (.int .i64 fs)) W1 := fun W1 hb => ⟨(hBw.below hb hBw.lt).cell 0, (hBw.below hb hBw.lt).cell 1, (hBw.below hb hBw.lt).cell 2, (hBw.below hb hBw.lt).cell 3, (hBw.below hb hBw.lt).cell 4, (hBw.below hb hBw.lt).cell 5, (hBw.below hb hBw.lt).cell 11⟩
  have s0 := hK W (Below.refl _ _)
  replace hBc := Lib.hid hBc
  replace hF := Lib.hid hF
  replace B0w := Lib.hid B0w
  replace hzw := Lib.hid hzw
  replace hK := Lib.hid hK
  replace hBw := Lib.hid hBw
  replace hA := Lib.hid hA
  go_enter Tryz.func70, Tryz.ntmps70
  go_upto_region 3 with fail
  rw [← hW]
  replace hW := Lib.hid hW
  go_region_held3 (fun W : World => W.cell? ⟨b, 0, none⟩ = some (.int .i64 c.cap) ∧ W.cell? ⟨b, 1, none⟩ = some (.int .i64 c.pins) ∧ W.cell? ⟨b, 2, none⟩ = some (.int .i64 c.shelves) ∧ W.cell? ⟨b, 3, none⟩ = some (.int .i64 c.queue) ∧ W.cell? ⟨b, 4, none⟩ = some (.int .i64 c.watchers) ∧ W.cell? ⟨b, 5, none⟩ = some (.int .u64 c.seed) ∧ W.cell? ⟨b, 11, none⟩ = some (.int .i64 fs)) (first | assumption | go_keep) (first | (go_at_call 82; refine (hF.out _).mono ?_; rintro e w1 ⟨rfl, hb⟩; have o1 : Below W.heap.size W w1 := (by first | exact hb | exact (Below.refl _ _).drew.trans hb | exact (below_drewN (Below.refl _ _) _).trans hb); have s1 := hK.out _ o1; clear hb; replace o1 := Lib.hid o1))
  all_goals
    clear s0
    have L1 := hBw.out.below o1.out hBw.out.lt
    have B1 := B0w.out.below o1.out B0w.out.lt
    have hb1 := Below.next_ hzw.out o1.out
    have hltw := L1.lt
    have l8 := L1.cell 8
    replace L1 := Lib.hid L1
    replace B1 := Lib.hid B1
    replace hb1 := Lib.hid hb1
    clear s1
    have l9 := L1.out.cell 9
    go_wp2_with fail
    refine (hA.out _ (by first | exact hb1.out | exact hb1.out.drew | exact below_drewN hb1.out _)).mono ?_; rintro e w2 ⟨rfl, hX⟩
    have hX2 : Below w1.heap.size w1 w2 := (by first | exact hX | exact (Below.refl _ _).drew.trans hX | exact (below_drewN (Below.refl _ _) _).trans hX)
    have B2 := B1.out.below hX2 B1.out.lt
    have hb2 := Below.next_ hb1.out hX2
    clear hX hX2 B1 hb1
    replace B2 := Lib.hid B2
    replace hb2 := Lib.hid hb2
    have b1c0 := B2.out.cell 0
    have b1c1 := B2.out.cell 1
    have b1c2 := B2.out.cell 2
    have b1c3 := B2.out.cell 3
    have b1c4 := B2.out.cell 4
    have b1c5 := B2.out.cell 5
    have b1f0 := B2.out.frozen 0
    have b1f1 := B2.out.frozen 1
    have b1f2 := B2.out.frozen 2
    have b1f3 := B2.out.frozen 3
    have b1f4 := B2.out.frozen 4
    have b1f5 := B2.out.frozen 5
    have hlR := B2.out.lt
    go_wp2_with fail
    refine gen_world (α := fun W' => bodyPost _ _ _ _ _ W') (fun W' => Blk W' w.heap.size 31 #[.int .i64 xk, .int .u64 xb, .int .i64 xc, .int .u64 xo, .int .u64 xn, .string xt] ∧ Below w.heap.size w W') ⟨?_, ?_⟩ ?_
    · refine Blk.eq_cs (cs := ((((((#[.int .i64 0, .int .u64 0, .int .i64 0, .int .u64 0, .int .u64 0, .string ⟨#[]⟩] : Array Value).setIfInBounds 0 (.int .i64 xk)).setIfInBounds 1 (.int .u64 xb)).setIfInBounds 2 (.int .i64 xc)).setIfInBounds 3 (.int .u64 xo)).setIfInBounds 4 (.int .u64 xn)).setIfInBounds 5 (.string xt)) ?_ rfl
      have hB := B2.out
      (repeat first | with_reducible exact hB | with_reducible refine Blk.drewN ?_ _ | with_reducible refine Blk.drew ?_ | with_reducible refine Blk.alloc ?_ _ | with_reducible refine Blk.set_ ?_ _ _ | refine Blk.far ?_ (by simp; omega) _)
    · have hB := hb2.out
      repeat first | with_reducible exact hB | with_reducible refine Below.drew ?_ | with_reducible refine below_drewN ?_ _ | refine Below.setCell ?_ (by exact Nat.le_refl _) _
    rintro W' ⟨g1, g2⟩
    have e0 := g1.cell 0
    have e1 := g1.cell 1
    have e2 := g1.cell 2
    have e3 := g1.cell 3
    have e4 := g1.cell 4
    have e5 := g1.cell 5
    exact bodyPost_ret (v := .tuple #[.agg #[.int .i64 xk, .int .u64 xb, .int .i64 xc, .int .u64 xo, .int .u64 xn, .string xt], .bool mo]) (by simp [results, Tryz.results70, go_sem, e0, e1, e2, e3, e4, e5]) rfl ⟨rfl, g2⟩
set_option maxRecDepth 100000 in
set_option maxHeartbeats 4000000 in
theorem lnAct3_any {w : World} {b : Nat} {c : PCfg} {ep fk fs blk laid : Int} {lv fv : Value} {rb : Nat} {xk xb xc xo xn : Int} {xt : ByteArray} {mo : Bool} (hBc : Blk w b 144 #[.int .i64 c.cap, .int .i64 c.pins, .int .i64 c.shelves, .int .i64 c.queue, .int .i64 c.watchers, .int .u64 c.seed, .int .u64 ep, lv, .int .i64 3, fv, .int .i64 fk, .int .i64 fs, .pointer (some ⟨rb, 0, none⟩), .int .u64 blk, .int .i64 laid]) (hc : c.Right) (hfs : 0 ≤ fs ∧ fs < c.shelves)
    (hA : ∀ W, Below w.heap.size w W → Calls Tryz.prog 105 #[.pointer (some ⟨rb, 0, none⟩)] W fun e w' => e = .returned (.tuple #[.agg #[.int .i64 xk, .int .u64 xb, .int .i64 xc, .int .u64 xo, .int .u64 xn, .string xt], .bool mo]) ∧ Below W.heap.size W w') :
    Calls Tryz.prog 70 #[.pointer (some ⟨b, 0, none⟩)] w fun e w' => e = .returned (.tuple #[.agg #[.int .i64 xk, .int .u64 xb, .int .i64 xc, .int .u64 xo, .int .u64 xn, .string xt], .bool mo]) ∧ Below w.heap.size w w' := by
  have hF := fun W => planHead_any c hc fs hfs W
  rw [show c.val = .agg #[.int .i64 c.cap, .int .i64 c.pins, .int .i64 c.shelves, .int .i64 c.queue, .int .i64 c.watchers, .int .u64 c.seed] from rfl] at hF
  have hlt := hBc.lt
  obtain ⟨W, hW⟩ : ∃ W, W = w.alloc (.cells #[.int .i64 0, .int .u64 0, .int .i64 0, .int .u64 0, .int .u64 0, .string ⟨#[]⟩] 31) := ⟨_, rfl⟩
  have hBw := hBc.alloc (.cells #[.int .i64 0, .int .u64 0, .int .i64 0, .int .u64 0, .int .u64 0, .string ⟨#[]⟩] 31)
  have B0w := Blk.new w 31 #[.int .i64 0, .int .u64 0, .int .i64 0, .int .u64 0, .int .u64 0, .string ⟨#[]⟩]
  have hzw : Below w.heap.size w (w.alloc (.cells #[.int .i64 0, .int .u64 0, .int .i64 0, .int .u64 0, .int .u64 0, .string ⟨#[]⟩] 31)) := (Below.refl _ _).alloc (Nat.le_refl _) _
  rw [← hW] at hBw B0w hzw
  have hK : ∀ W1 : World, Below W.heap.size W W1 → (fun W : World => W.cell? ⟨b, 0, none⟩ = some (.int .i64 c.cap) ∧ W.cell? ⟨b, 1, none⟩ = some (.int .i64 c.pins) ∧ W.cell? ⟨b, 2, none⟩ = some (.int .i64 c.shelves) ∧ W.cell? ⟨b, 3, none⟩ = some (.int .i64 c.queue) ∧ W.cell? ⟨b, 4, none⟩ = some (.int .i64 c.watchers) ∧ W.cell? ⟨b, 5, none⟩ = some (.int .u64 c.seed) ∧ W.cell? ⟨b, 11, none⟩ = some (.int .i64 fs)) W1 := fun W1 hb => ⟨(hBw.below hb hBw.lt).cell 0, (hBw.below hb hBw.lt).cell 1, (hBw.below hb hBw.lt).cell 2, (hBw.below hb hBw.lt).cell 3, (hBw.below hb hBw.lt).cell 4, (hBw.below hb hBw.lt).cell 5, (hBw.below hb hBw.lt).cell 11⟩
  have s0 := hK W (Below.refl _ _)
  replace hBc := Lib.hid hBc
  replace hF := Lib.hid hF
  replace B0w := Lib.hid B0w
  replace hzw := Lib.hid hzw
  replace hK := Lib.hid hK
  replace hBw := Lib.hid hBw
  replace hA := Lib.hid hA
  go_enter Tryz.func70, Tryz.ntmps70
  go_upto_region 3 with fail
  rw [← hW]
  replace hW := Lib.hid hW
  go_region_held3 (fun W : World => W.cell? ⟨b, 0, none⟩ = some (.int .i64 c.cap) ∧ W.cell? ⟨b, 1, none⟩ = some (.int .i64 c.pins) ∧ W.cell? ⟨b, 2, none⟩ = some (.int .i64 c.shelves) ∧ W.cell? ⟨b, 3, none⟩ = some (.int .i64 c.queue) ∧ W.cell? ⟨b, 4, none⟩ = some (.int .i64 c.watchers) ∧ W.cell? ⟨b, 5, none⟩ = some (.int .u64 c.seed) ∧ W.cell? ⟨b, 11, none⟩ = some (.int .i64 fs)) (first | assumption | go_keep) (first | (go_at_call 82; refine (hF.out _).mono ?_; rintro e w1 ⟨rfl, hb⟩; have o1 : Below W.heap.size W w1 := (by first | exact hb | exact (Below.refl _ _).drew.trans hb | exact (below_drewN (Below.refl _ _) _).trans hb); have s1 := hK.out _ o1; clear hb; replace o1 := Lib.hid o1))
  all_goals
    clear s0
    have L1 := hBw.out.below o1.out hBw.out.lt
    have B1 := B0w.out.below o1.out B0w.out.lt
    have hb1 := Below.next_ hzw.out o1.out
    have hltw := L1.lt
    have l8 := L1.cell 8
    replace L1 := Lib.hid L1
    replace B1 := Lib.hid B1
    replace hb1 := Lib.hid hb1
    clear s1
    have l12 := L1.out.cell 12
    go_wp2_with fail
    refine (hA.out _ (by first | exact hb1.out | exact hb1.out.drew | exact below_drewN hb1.out _)).mono ?_; rintro e w2 ⟨rfl, hX⟩
    have hX2 : Below w1.heap.size w1 w2 := (by first | exact hX | exact (Below.refl _ _).drew.trans hX | exact (below_drewN (Below.refl _ _) _).trans hX)
    have B2 := B1.out.below hX2 B1.out.lt
    have hb2 := Below.next_ hb1.out hX2
    clear hX hX2 B1 hb1
    replace B2 := Lib.hid B2
    replace hb2 := Lib.hid hb2
    have b1c0 := B2.out.cell 0
    have b1c1 := B2.out.cell 1
    have b1c2 := B2.out.cell 2
    have b1c3 := B2.out.cell 3
    have b1c4 := B2.out.cell 4
    have b1c5 := B2.out.cell 5
    have b1f0 := B2.out.frozen 0
    have b1f1 := B2.out.frozen 1
    have b1f2 := B2.out.frozen 2
    have b1f3 := B2.out.frozen 3
    have b1f4 := B2.out.frozen 4
    have b1f5 := B2.out.frozen 5
    have hlR := B2.out.lt
    go_wp2_with fail
    refine gen_world (α := fun W' => bodyPost _ _ _ _ _ W') (fun W' => Blk W' w.heap.size 31 #[.int .i64 xk, .int .u64 xb, .int .i64 xc, .int .u64 xo, .int .u64 xn, .string xt] ∧ Below w.heap.size w W') ⟨?_, ?_⟩ ?_
    · refine Blk.eq_cs (cs := ((((((#[.int .i64 0, .int .u64 0, .int .i64 0, .int .u64 0, .int .u64 0, .string ⟨#[]⟩] : Array Value).setIfInBounds 0 (.int .i64 xk)).setIfInBounds 1 (.int .u64 xb)).setIfInBounds 2 (.int .i64 xc)).setIfInBounds 3 (.int .u64 xo)).setIfInBounds 4 (.int .u64 xn)).setIfInBounds 5 (.string xt)) ?_ rfl
      have hB := B2.out
      (repeat first | with_reducible exact hB | with_reducible refine Blk.drewN ?_ _ | with_reducible refine Blk.drew ?_ | with_reducible refine Blk.alloc ?_ _ | with_reducible refine Blk.set_ ?_ _ _ | refine Blk.far ?_ (by simp; omega) _)
    · have hB := hb2.out
      repeat first | with_reducible exact hB | with_reducible refine Below.drew ?_ | with_reducible refine below_drewN ?_ _ | refine Below.setCell ?_ (by exact Nat.le_refl _) _
    rintro W' ⟨g1, g2⟩
    have e0 := g1.cell 0
    have e1 := g1.cell 1
    have e2 := g1.cell 2
    have e3 := g1.cell 3
    have e4 := g1.cell 4
    have e5 := g1.cell 5
    exact bodyPost_ret (v := .tuple #[.agg #[.int .i64 xk, .int .u64 xb, .int .i64 xc, .int .u64 xo, .int .u64 xn, .string xt], .bool mo]) (by simp [results, Tryz.results70, go_sem, e0, e1, e2, e3, e4, e5]) rfl ⟨rfl, g2⟩
set_option maxRecDepth 100000 in
set_option maxHeartbeats 4000000 in
theorem lnAct5_any {w : World} {b : Nat} {c : PCfg} {ep fk fs blk laid : Int} {fv vv : Value} {ad : Addr} {n cap : Nat} {ky : ByteArray} (hBc : Blk w b 144 #[.int .i64 c.cap, .int .i64 c.pins, .int .i64 c.shelves, .int .i64 c.queue, .int .i64 c.watchers, .int .u64 c.seed, .int .u64 ep, .slice (some ad) n cap, .int .i64 5, fv, .int .i64 fk, .int .i64 fs, vv, .int .u64 blk, .int .i64 laid]) (hc : c.Right) (hfs : 0 ≤ fs ∧ fs < c.shelves) (hn : 0 < n) (had : ad.block < w.heap.size) (hcl : w.cell? ad = some (.string ky)) :
    Calls Tryz.prog 70 #[.pointer (some ⟨b, 0, none⟩)] w fun e w' => e = .returned (.tuple #[.agg #[.int .i64 5, .int .u64 0, .int .i64 0, .int .u64 0, .int .u64 0, .string ky], .bool true]) ∧ Below w.heap.size w w' := by
  have hF := fun W => planHead_any c hc fs hfs W
  rw [show c.val = .agg #[.int .i64 c.cap, .int .i64 c.pins, .int .i64 c.shelves, .int .i64 c.queue, .int .i64 c.watchers, .int .u64 c.seed] from rfl] at hF
  have hlt := hBc.lt
  obtain ⟨W, hW⟩ : ∃ W, W = w.alloc (.cells #[.int .i64 0, .int .u64 0, .int .i64 0, .int .u64 0, .int .u64 0, .string ⟨#[]⟩] 31) := ⟨_, rfl⟩
  have hBw := hBc.alloc (.cells #[.int .i64 0, .int .u64 0, .int .i64 0, .int .u64 0, .int .u64 0, .string ⟨#[]⟩] 31)
  have B0w := Blk.new w 31 #[.int .i64 0, .int .u64 0, .int .i64 0, .int .u64 0, .int .u64 0, .string ⟨#[]⟩]
  have hzw : Below w.heap.size w (w.alloc (.cells #[.int .i64 0, .int .u64 0, .int .i64 0, .int .u64 0, .int .u64 0, .string ⟨#[]⟩] 31)) := (Below.refl _ _).alloc (Nat.le_refl _) _
  rw [← hW] at hBw B0w hzw
  have hK : ∀ W1 : World, Below W.heap.size W W1 → (fun W : World => W.cell? ⟨b, 0, none⟩ = some (.int .i64 c.cap) ∧ W.cell? ⟨b, 1, none⟩ = some (.int .i64 c.pins) ∧ W.cell? ⟨b, 2, none⟩ = some (.int .i64 c.shelves) ∧ W.cell? ⟨b, 3, none⟩ = some (.int .i64 c.queue) ∧ W.cell? ⟨b, 4, none⟩ = some (.int .i64 c.watchers) ∧ W.cell? ⟨b, 5, none⟩ = some (.int .u64 c.seed) ∧ W.cell? ⟨b, 11, none⟩ = some (.int .i64 fs)) W1 := fun W1 hb => ⟨(hBw.below hb hBw.lt).cell 0, (hBw.below hb hBw.lt).cell 1, (hBw.below hb hBw.lt).cell 2, (hBw.below hb hBw.lt).cell 3, (hBw.below hb hBw.lt).cell 4, (hBw.below hb hBw.lt).cell 5, (hBw.below hb hBw.lt).cell 11⟩
  have s0 := hK W (Below.refl _ _)
  replace hBc := Lib.hid hBc
  replace hF := Lib.hid hF
  replace B0w := Lib.hid B0w
  replace hzw := Lib.hid hzw
  replace hK := Lib.hid hK
  replace hBw := Lib.hid hBw
  replace hcl := Lib.hid hcl
  go_enter Tryz.func70, Tryz.ntmps70
  go_upto_region 3 with fail
  rw [← hW]
  replace hW := Lib.hid hW
  go_region_held3 (fun W : World => W.cell? ⟨b, 0, none⟩ = some (.int .i64 c.cap) ∧ W.cell? ⟨b, 1, none⟩ = some (.int .i64 c.pins) ∧ W.cell? ⟨b, 2, none⟩ = some (.int .i64 c.shelves) ∧ W.cell? ⟨b, 3, none⟩ = some (.int .i64 c.queue) ∧ W.cell? ⟨b, 4, none⟩ = some (.int .i64 c.watchers) ∧ W.cell? ⟨b, 5, none⟩ = some (.int .u64 c.seed) ∧ W.cell? ⟨b, 11, none⟩ = some (.int .i64 fs)) (first | assumption | go_keep) (first | (go_at_call 82; refine (hF.out _).mono ?_; rintro e w1 ⟨rfl, hb⟩; have o1 : Below W.heap.size W w1 := (by first | exact hb | exact (Below.refl _ _).drew.trans hb | exact (below_drewN (Below.refl _ _) _).trans hb); have s1 := hK.out _ o1; clear hb; replace o1 := Lib.hid o1))
  all_goals
    clear s0
    have L1 := hBw.out.below o1.out hBw.out.lt
    have B1 := B0w.out.below o1.out B0w.out.lt
    have hb1 := Below.next_ hzw.out o1.out
    have hltw := L1.lt
    have l8 := L1.cell 8
    replace L1 := Lib.hid L1
    replace B1 := Lib.hid B1
    replace hb1 := Lib.hid hb1
    clear s1
    have l7 := L1.out.cell 7
    have r0 := (hb1.out.cell had).trans hcl.out
    have i1 : (0 : Int) < (n : Int) := by omega
    have i0 : (0 : Int) ≤ 0 := by omega
    have b1c0 := B1.out.cell 0
    have b1c1 := B1.out.cell 1
    have b1c2 := B1.out.cell 2
    have b1c3 := B1.out.cell 3
    have b1c4 := B1.out.cell 4
    have b1c5 := B1.out.cell 5
    have b1f0 := B1.out.frozen 0
    have b1f1 := B1.out.frozen 1
    have b1f2 := B1.out.frozen 2
    have b1f3 := B1.out.frozen 3
    have b1f4 := B1.out.frozen 4
    have b1f5 := B1.out.frozen 5
    have hlR := B1.out.lt
    go_wp2_with fail
    refine gen_world (α := fun W' => bodyPost _ _ _ _ _ W') (fun W' => Blk W' w.heap.size 31 #[.int .i64 5, .int .u64 0, .int .i64 0, .int .u64 0, .int .u64 0, .string ky] ∧ Below w.heap.size w W') ⟨?_, ?_⟩ ?_
    · refine Blk.eq_cs (cs := ((((((#[.int .i64 0, .int .u64 0, .int .i64 0, .int .u64 0, .int .u64 0, .string ⟨#[]⟩] : Array Value).setIfInBounds 0 (.int .i64 5)).setIfInBounds 1 (.int .u64 0)).setIfInBounds 2 (.int .i64 0)).setIfInBounds 3 (.int .u64 0)).setIfInBounds 4 (.int .u64 0)).setIfInBounds 5 (.string ky)) ?_ rfl
      have hB := B1.out
      (repeat first | with_reducible exact hB | with_reducible refine Blk.drewN ?_ _ | with_reducible refine Blk.drew ?_ | with_reducible refine Blk.alloc ?_ _ | with_reducible refine Blk.set_ ?_ _ _ | refine Blk.far ?_ (by simp; omega) _)
    · have hB := hb1.out
      repeat first | with_reducible exact hB | with_reducible refine Below.drew ?_ | with_reducible refine below_drewN ?_ _ | refine Below.setCell ?_ (by exact Nat.le_refl _) _
    rintro W' ⟨g1, g2⟩
    have e0 := g1.cell 0
    have e1 := g1.cell 1
    have e2 := g1.cell 2
    have e3 := g1.cell 3
    have e4 := g1.cell 4
    have e5 := g1.cell 5
    exact bodyPost_ret (v := .tuple #[.agg #[.int .i64 5, .int .u64 0, .int .i64 0, .int .u64 0, .int .u64 0, .string ky], .bool true]) (by simp [results, Tryz.results70, go_sem, e0, e1, e2, e3, e4, e5]) rfl ⟨rfl, g2⟩
set_option maxRecDepth 100000 in
set_option maxHeartbeats 4000000 in
theorem lnAct6_any {w : World} {b : Nat} {c : PCfg} {ep fk fs blk laid : Int} {lv fv vv : Value} (hBc : Blk w b 144 #[.int .i64 c.cap, .int .i64 c.pins, .int .i64 c.shelves, .int .i64 c.queue, .int .i64 c.watchers, .int .u64 c.seed, .int .u64 ep, lv, .int .i64 6, fv, .int .i64 fk, .int .i64 fs, vv, .int .u64 blk, .int .i64 laid]) (hc : c.Right) (hfs : 0 ≤ fs ∧ fs < c.shelves) :
    Calls Tryz.prog 70 #[.pointer (some ⟨b, 0, none⟩)] w fun e w' => e = .returned (.tuple #[.agg #[.int .i64 2, .int .u64 1, .int .i64 (3 + c.pins + c.cap + 2 * fs), .int .u64 0, .int .u64 blk, .string ⟨#[]⟩], .bool true]) ∧ Below w.heap.size w w' := by
  have hKy := fun W => planKey_any c hc fs hfs W
  have hSt := fun W => layStore_any (3 + c.pins + c.cap + 2 * fs) blk W
  rw [show c.val = .agg #[.int .i64 c.cap, .int .i64 c.pins, .int .i64 c.shelves, .int .i64 c.queue, .int .i64 c.watchers, .int .u64 c.seed] from rfl] at hKy
  have hF := fun W => planHead_any c hc fs hfs W
  rw [show c.val = .agg #[.int .i64 c.cap, .int .i64 c.pins, .int .i64 c.shelves, .int .i64 c.queue, .int .i64 c.watchers, .int .u64 c.seed] from rfl] at hF
  have hlt := hBc.lt
  obtain ⟨W, hW⟩ : ∃ W, W = w.alloc (.cells #[.int .i64 0, .int .u64 0, .int .i64 0, .int .u64 0, .int .u64 0, .string ⟨#[]⟩] 31) := ⟨_, rfl⟩
  have hBw := hBc.alloc (.cells #[.int .i64 0, .int .u64 0, .int .i64 0, .int .u64 0, .int .u64 0, .string ⟨#[]⟩] 31)
  have B0w := Blk.new w 31 #[.int .i64 0, .int .u64 0, .int .i64 0, .int .u64 0, .int .u64 0, .string ⟨#[]⟩]
  have hzw : Below w.heap.size w (w.alloc (.cells #[.int .i64 0, .int .u64 0, .int .i64 0, .int .u64 0, .int .u64 0, .string ⟨#[]⟩] 31)) := (Below.refl _ _).alloc (Nat.le_refl _) _
  rw [← hW] at hBw B0w hzw
  have hK : ∀ W1 : World, Below W.heap.size W W1 → (fun W : World => W.cell? ⟨b, 0, none⟩ = some (.int .i64 c.cap) ∧ W.cell? ⟨b, 1, none⟩ = some (.int .i64 c.pins) ∧ W.cell? ⟨b, 2, none⟩ = some (.int .i64 c.shelves) ∧ W.cell? ⟨b, 3, none⟩ = some (.int .i64 c.queue) ∧ W.cell? ⟨b, 4, none⟩ = some (.int .i64 c.watchers) ∧ W.cell? ⟨b, 5, none⟩ = some (.int .u64 c.seed) ∧ W.cell? ⟨b, 11, none⟩ = some (.int .i64 fs)) W1 := fun W1 hb => ⟨(hBw.below hb hBw.lt).cell 0, (hBw.below hb hBw.lt).cell 1, (hBw.below hb hBw.lt).cell 2, (hBw.below hb hBw.lt).cell 3, (hBw.below hb hBw.lt).cell 4, (hBw.below hb hBw.lt).cell 5, (hBw.below hb hBw.lt).cell 11⟩
  have s0 := hK W (Below.refl _ _)
  replace hBc := Lib.hid hBc
  replace hF := Lib.hid hF
  replace B0w := Lib.hid B0w
  replace hzw := Lib.hid hzw
  replace hK := Lib.hid hK
  replace hBw := Lib.hid hBw
  replace hKy := Lib.hid hKy
  replace hSt := Lib.hid hSt
  go_enter Tryz.func70, Tryz.ntmps70
  go_upto_region 3 with fail
  rw [← hW]
  replace hW := Lib.hid hW
  go_region_held3 (fun W : World => W.cell? ⟨b, 0, none⟩ = some (.int .i64 c.cap) ∧ W.cell? ⟨b, 1, none⟩ = some (.int .i64 c.pins) ∧ W.cell? ⟨b, 2, none⟩ = some (.int .i64 c.shelves) ∧ W.cell? ⟨b, 3, none⟩ = some (.int .i64 c.queue) ∧ W.cell? ⟨b, 4, none⟩ = some (.int .i64 c.watchers) ∧ W.cell? ⟨b, 5, none⟩ = some (.int .u64 c.seed) ∧ W.cell? ⟨b, 11, none⟩ = some (.int .i64 fs)) (first | assumption | go_keep) (first | (go_at_call 82; refine (hF.out _).mono ?_; rintro e w1 ⟨rfl, hb⟩; have o1 : Below W.heap.size W w1 := (by first | exact hb | exact (Below.refl _ _).drew.trans hb | exact (below_drewN (Below.refl _ _) _).trans hb); have s1 := hK.out _ o1; clear hb; replace o1 := Lib.hid o1))
  all_goals
    clear s0
    have L1 := hBw.out.below o1.out hBw.out.lt
    have B1 := B0w.out.below o1.out B0w.out.lt
    have hb1 := Below.next_ hzw.out o1.out
    have hltw := L1.lt
    have l8 := L1.cell 8
    replace L1 := Lib.hid L1
    replace B1 := Lib.hid B1
    replace hb1 := Lib.hid hb1
    clear s1
    have hK6 : ∀ W1 : World, Below w1.heap.size w1 W1 → (fun W : World => W.cell? ⟨b, 0, none⟩ = some (.int .i64 c.cap) ∧ W.cell? ⟨b, 1, none⟩ = some (.int .i64 c.pins) ∧ W.cell? ⟨b, 2, none⟩ = some (.int .i64 c.shelves) ∧ W.cell? ⟨b, 3, none⟩ = some (.int .i64 c.queue) ∧ W.cell? ⟨b, 4, none⟩ = some (.int .i64 c.watchers) ∧ W.cell? ⟨b, 5, none⟩ = some (.int .u64 c.seed) ∧ W.cell? ⟨b, 11, none⟩ = some (.int .i64 fs) ∧ W.cell? ⟨b, 13, none⟩ = some (.int .u64 blk)) W1 := fun W1 hb => ⟨(L1.out.below hb L1.out.lt).cell 0, (L1.out.below hb L1.out.lt).cell 1, (L1.out.below hb L1.out.lt).cell 2, (L1.out.below hb L1.out.lt).cell 3, (L1.out.below hb L1.out.lt).cell 4, (L1.out.below hb L1.out.lt).cell 5, (L1.out.below hb L1.out.lt).cell 11, (L1.out.below hb L1.out.lt).cell 13⟩
    have s6 := hK6 w1 (Below.refl _ _)
    replace hK6 := Lib.hid hK6
    go_upto_region 16 with fail
    clear s6
    refine wp_region_lex [(true, 0), (true, 1), (true, 2), (true, 3), (true, 4), (true, 5), (true, 6), (true, 7), (true, 8), (true, 10), (true, 11), (true, 12), (true, 13), (false, 9), (false, 14), (false, 15), (true, 16)] (fun W : World => W.cell? ⟨b, 0, none⟩ = some (.int .i64 c.cap) ∧ W.cell? ⟨b, 1, none⟩ = some (.int .i64 c.pins) ∧ W.cell? ⟨b, 2, none⟩ = some (.int .i64 c.shelves) ∧ W.cell? ⟨b, 3, none⟩ = some (.int .i64 c.queue) ∧ W.cell? ⟨b, 4, none⟩ = some (.int .i64 c.watchers) ∧ W.cell? ⟨b, 5, none⟩ = some (.int .u64 c.seed) ∧ W.cell? ⟨b, 11, none⟩ = some (.int .i64 fs) ∧ W.cell? ⟨b, 13, none⟩ = some (.int .u64 blk)) (by kernel_rfl) (by kernel_rfl) (fun R hR => ?_)
    have hHeld := hK6.out w1.drew (Below.refl _ _).drew
    repeat (refine lex_take (v := ?_) rfl (by rfl) (by assumption) ?_ ?_; rotate_left 1; (focus (intro w hSw; (try dsimp only at hSw); go_simp; (try with_reducible rfl))); (try simp only [Act.put, List.setIfInBounds_toArray, List.set_cons_zero, List.set_cons_succ]))
    (refine lex_call rfl (by rfl) (fun K hq => ?_); go_simp)
    go_at_call 39
    refine (hKy.out _).mono ?_; rintro e w2 ⟨rfl, hX⟩
    have o2 : Below w1.heap.size w1 w2 := (by first | exact hX | exact (Below.refl _ _).drew.trans hX | exact (below_drewN (Below.refl _ _) _).trans hX)
    clear hHeld
    have hHeld := hK6.out _ o2
    have B2 := B1.out.below o2 B1.out.lt
    have hb2 := Below.next_ hb1.out o2
    clear hX
    replace o2 := Lib.hid o2
    replace B2 := Lib.hid B2
    replace hb2 := Lib.hid hb2
    go_wp2_with fail
    (refine hq.out _ _ (fun W : World => W.cell? ⟨b, 0, none⟩ = some (.int .i64 c.cap) ∧ W.cell? ⟨b, 1, none⟩ = some (.int .i64 c.pins) ∧ W.cell? ⟨b, 2, none⟩ = some (.int .i64 c.shelves) ∧ W.cell? ⟨b, 3, none⟩ = some (.int .i64 c.queue) ∧ W.cell? ⟨b, 4, none⟩ = some (.int .i64 c.watchers) ∧ W.cell? ⟨b, 5, none⟩ = some (.int .u64 c.seed) ∧ W.cell? ⟨b, 11, none⟩ = some (.int .i64 fs) ∧ W.cell? ⟨b, 13, none⟩ = some (.int .u64 blk)) (fun _ h => h) hHeld ?_; clear hq K; (try simp only [Act.put, List.setIfInBounds_toArray, List.set_cons_zero, List.set_cons_succ]))
    (refine lex_call rfl (by rfl) (fun K hq => ?_); go_simp)
    go_at_call 106
    refine (hSt.out _).mono ?_; rintro e w3 ⟨rfl, hX⟩
    have o3 : Below w2.heap.size w2 w3 := (by first | exact hX | exact (Below.refl _ _).drew.trans hX | exact (below_drewN (Below.refl _ _) _).trans hX)
    have o4 := o2.out.trans (o3.mono o2.out.size)
    clear hHeld
    have hHeld := hK6.out _ o4
    have L3 := L1.out.below o4 L1.out.lt
    have B3 := B2.out.below o3 B2.out.lt
    have hb3 := Below.next_ hb2.out o3
    clear hX
    replace o4 := Lib.hid o4
    replace L3 := Lib.hid L3
    replace B3 := Lib.hid B3
    replace hb3 := Lib.hid hb3
    go_wp2_with fail
    (refine hq.out _ _ (fun W : World => W.cell? ⟨b, 0, none⟩ = some (.int .i64 c.cap) ∧ W.cell? ⟨b, 1, none⟩ = some (.int .i64 c.pins) ∧ W.cell? ⟨b, 2, none⟩ = some (.int .i64 c.shelves) ∧ W.cell? ⟨b, 3, none⟩ = some (.int .i64 c.queue) ∧ W.cell? ⟨b, 4, none⟩ = some (.int .i64 c.watchers) ∧ W.cell? ⟨b, 5, none⟩ = some (.int .u64 c.seed) ∧ W.cell? ⟨b, 11, none⟩ = some (.int .i64 fs) ∧ W.cell? ⟨b, 13, none⟩ = some (.int .u64 blk)) (fun _ h => h) hHeld ?_; clear hq K; (try simp only [Act.put, List.setIfInBounds_toArray, List.set_cons_zero, List.set_cons_succ]))
    have b1c0 := B3.out.cell 0
    have b1c1 := B3.out.cell 1
    have b1c2 := B3.out.cell 2
    have b1c3 := B3.out.cell 3
    have b1c4 := B3.out.cell 4
    have b1c5 := B3.out.cell 5
    have b1f0 := B3.out.frozen 0
    have b1f1 := B3.out.frozen 1
    have b1f2 := B3.out.frozen 2
    have b1f3 := B3.out.frozen 3
    have b1f4 := B3.out.frozen 4
    have b1f5 := B3.out.frozen 5
    have hlR := B3.out.lt
    have hbne : b ≠ w.heap.size := by omega
    (refine lex_call rfl (by rfl) (fun K hq => ?_); go_simp)
    refine hq.out _ _ (fun W : World => W.cell? ⟨b, 0, none⟩ = some (.int .i64 c.cap) ∧ W.cell? ⟨b, 1, none⟩ = some (.int .i64 c.pins) ∧ W.cell? ⟨b, 2, none⟩ = some (.int .i64 c.shelves) ∧ W.cell? ⟨b, 3, none⟩ = some (.int .i64 c.queue) ∧ W.cell? ⟨b, 4, none⟩ = some (.int .i64 c.watchers) ∧ W.cell? ⟨b, 5, none⟩ = some (.int .u64 c.seed) ∧ W.cell? ⟨b, 11, none⟩ = some (.int .i64 fs) ∧ W.cell? ⟨b, 13, none⟩ = some (.int .u64 blk)) (fun _ h => h) (And.elim (fun (h : Blk _ b 144 #[.int .i64 c.cap, .int .i64 c.pins, .int .i64 c.shelves, .int .i64 c.queue, .int .i64 c.watchers, .int .u64 c.seed, .int .u64 ep, lv, .int .i64 6, fv, .int .i64 fk, .int .i64 fs, vv, .int .u64 blk, .int .i64 laid]) (_ : True) => ⟨h.cell 0, h.cell 1, h.cell 2, h.cell 3, h.cell 4, h.cell 5, h.cell 11, h.cell 13⟩) ⟨?_, trivial⟩) ?_
    · have hB := L3.out
      (repeat first | with_reducible exact hB | with_reducible refine Blk.drewN ?_ _ | with_reducible refine Blk.drew ?_ | with_reducible refine Blk.alloc ?_ _ | with_reducible refine Blk.set_ ?_ _ _ | refine Blk.far ?_ (by simp; omega) _)
    clear hq K
    (try simp only [Act.put, List.setIfInBounds_toArray, List.set_cons_zero, List.set_cons_succ])
    refine lex_take (v := .bool true) rfl (by rfl) (by refine And.elim (fun (h : Blk _ b 144 #[.int .i64 c.cap, .int .i64 c.pins, .int .i64 c.shelves, .int .i64 c.queue, .int .i64 c.watchers, .int .u64 c.seed, .int .u64 ep, lv, .int .i64 6, fv, .int .i64 fk, .int .i64 fs, vv, .int .u64 blk, .int .i64 laid]) (_ : True) => ⟨h.cell 0, h.cell 1, h.cell 2, h.cell 3, h.cell 4, h.cell 5, h.cell 11, h.cell 13⟩) ⟨?_, trivial⟩; have hB := L3.out; (repeat first | with_reducible exact hB | with_reducible refine Blk.drewN ?_ _ | with_reducible refine Blk.drew ?_ | with_reducible refine Blk.alloc ?_ _ | with_reducible refine Blk.set_ ?_ _ _ | refine Blk.far ?_ (by simp; omega) _)) (fun w hSw => by go_simp; (try with_reducible rfl)) ?_
    (try simp only [Act.put, List.setIfInBounds_toArray, List.set_cons_zero, List.set_cons_succ])
    refine lex_end (hR.out _ _ ?_)
    clear hR R hHeld
    go_wp2_with fail
    refine gen_world (α := fun W' => bodyPost _ _ _ _ _ W') (fun W' => Blk W' w.heap.size 31 #[.int .i64 2, .int .u64 1, .int .i64 (3 + c.pins + c.cap + 2 * fs), .int .u64 0, .int .u64 blk, .string ⟨#[]⟩] ∧ Below w.heap.size w W') ⟨?_, ?_⟩ ?_
    · refine Blk.eq_cs (cs := ((((((#[.int .i64 0, .int .u64 0, .int .i64 0, .int .u64 0, .int .u64 0, .string ⟨#[]⟩] : Array Value).setIfInBounds 0 (.int .i64 2)).setIfInBounds 1 (.int .u64 1)).setIfInBounds 2 (.int .i64 (3 + c.pins + c.cap + 2 * fs))).setIfInBounds 3 (.int .u64 0)).setIfInBounds 4 (.int .u64 blk)).setIfInBounds 5 (.string ⟨#[]⟩)) ?_ rfl
      have hB := B3.out
      (repeat first | with_reducible exact hB | with_reducible refine Blk.drewN ?_ _ | with_reducible refine Blk.drew ?_ | with_reducible refine Blk.alloc ?_ _ | with_reducible refine Blk.set_ ?_ _ _ | refine Blk.far ?_ (by simp; omega) _)
    · have hB := hb3.out
      repeat first | with_reducible exact hB | with_reducible refine Below.drew ?_ | with_reducible refine below_drewN ?_ _ | refine Below.setCell ?_ (by exact Nat.le_refl _) _
    rintro W' ⟨g1, g2⟩
    have e0 := g1.cell 0
    have e1 := g1.cell 1
    have e2 := g1.cell 2
    have e3 := g1.cell 3
    have e4 := g1.cell 4
    have e5 := g1.cell 5
    exact bodyPost_ret (v := .tuple #[.agg #[.int .i64 2, .int .u64 1, .int .i64 (3 + c.pins + c.cap + 2 * fs), .int .u64 0, .int .u64 blk, .string ⟨#[]⟩], .bool true]) (by simp [results, Tryz.results70, go_sem, e0, e1, e2, e3, e4, e5]) rfl ⟨rfl, g2⟩
end Go.Proofs.YtmlnhjfdhjachaaGreat
