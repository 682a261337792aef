import Derived.RangeFuncNested
import Derived.RangeFuncBound
import Derived.RangeFuncCalls
import Derived.RangeFuncLeaves
import Derived.Shelf.Abstract
import Derived.Shelf.RegionOpen
import Derived.WalkKit
import Derived.OwnWalkIn
import Derived.TacticsInMore
import Derived.LoopNIn
import Derived.LoopIn
import Derived.Laws.Tables
import Derived.WalkLawsBesides
import Derived.Test.YtmlnhjfdhjachaaGreatQll4
/-
  A range over a function whose iterator changes memory: the law for a loop whose rounds all go on. No condition.
-/
namespace Go.Proofs.YtmlnhjfdhjachaaGreat
set_option linter.unusedVariables false
open Go.RowKit Go.Shelf

/-- The loop's two blocks of book-keeping lie as they should. -/
def Book (l D : Nat) (rec : Loop) (W : World) : Prop := W.heap[l]? = some (.loop rec) ∧ W.heap[D]? = some (.deferred (some []))

theorem rangeFunc_eff {α : Type} {P : Program} {g : Operand} {ps : Array Tmp} {assign body : Code} {Q : Exit → Act → World → Prop} {a : Act} {w : World}
    {gf : Nat} {lb : Array Value} (hg : a.eval g = .func (.func gf) #[] lb) (eg : ∀ args w, (callFunc gf args).run P w = .ok (.enter gf args) w)
    {encs : α → Array Value} (hps : ∀ x, (encs x).size = ps.size)
    (I : List α → World → Prop) (M : List α → α → World → Prop) (E : List α → World → Prop)
    (h0 : I [] ((w.alloc (.deferred (some []))).alloc (.loop { state := .ready, pending := none, fn := 0, tmps := a.tmps, params := ps, assign, body, defers := w.heap.size })))
    (hI0 : ∀ o o', I [] ((w.alloc (.deferred (some []))).alloc o) → I [] ((w.alloc (.deferred (some []))).alloc o'))
    (hM : ∀ pre x (W : World) o, M pre x W → M pre x (W.putObj (w.heap.size + 1) o))
    (hI : ∀ pre (W : World) o, I pre W → I pre (W.putObj (w.heap.size + 1) o))
    (hE : ∀ pre (W : World) o, E pre W → E pre (W.putObj (w.heap.size + 1) o))
    (hiter : ∀ (rec : Loop) (W : World), I [] W → Book (w.heap.size + 1) w.heap.size rec W →
      (∀ pre x W1, M pre x W1 → Book (w.heap.size + 1) w.heap.size rec W1 → YieldAt Fence.wide 0 P (w.heap.size + 1) (encs x) W1 fun e W' =>
        e = .returned (.bool true) ∧ I (pre ++ [x]) W' ∧ Book (w.heap.size + 1) w.heap.size rec W') →
      CallsIn Fence.wide 0 P gf (#[.func (.yield (w.heap.size + 1)) #[] #[]] ++ lb) W fun e W' => (∃ v, e = .returned v) ∧ ∃ xs, E xs W' ∧ Book (w.heap.size + 1) w.heap.size rec W')
    (a₁ : α → Act)
    (hassign : ∀ (l : Nat) (x : α) (W : World) (K : Act → World → Prop), K (a₁ x) W →
      assign.wpIn (Fence.wide.inRound l) 0 P (Exit.then K (fun _ _ _ => False)) { tmps := (ps.zip (encs x)).foldl (fun t (p, v) => t.setIfInBounds p v) a.tmps, defers := [] } W)
    (hbody : ∀ (pre : List α) (x : α) (W : World) (rec : Loop), M pre x W → Book (w.heap.size + 1) w.heap.size rec W → body.wpIn (Fence.wide.inRound (w.heap.size + 1)) 0 P (fun e _ W' => match e with
      | .normal => I (pre ++ [x]) W' ∧ Book (w.heap.size + 1) w.heap.size rec W'
      | _ => False) (a₁ x) W)
    (hdone : ∀ (xs : List α) (W : World), E xs W → W.heap[w.heap.size]? = some (.deferred (some [])) → Q .normal { a with defers := { target := .collected w.heap.size, args := #[] } :: a.defers } W) :
    (Code.rangeFunc g ps assign body).wpIn Fence.wide 0 P Q a w := by
  refine wpIn_rangeFunc ?_
  intro fn hfn
  rw [show Fence.wide.round = none from rfl]
  obtain ⟨rec, hrec⟩ : ∃ rec : LoopState → Option Code → Loop, rec = fun st pe => { state := st, pending := pe, fn, tmps := a.tmps, params := ps, assign, body, defers := w.heap.size } := ⟨_, rfl⟩
  obtain ⟨W1, hW1⟩ : ∃ W1, (w.alloc (.deferred (some []))).alloc (.loop (rec .ready none)) = W1 := ⟨_, rfl⟩
  have hL1 : W1.heap[w.heap.size + 1]? = some (.loop (rec .ready none)) := by
    rw [← hW1]; have := World.alloc_heap_new (w.alloc (.deferred (some []))) (.loop (rec .ready none)); rwa [World.size_alloc] at this
  have hK1 : W1.heap[w.heap.size]? = some (.deferred (some [])) := by
    rw [← hW1]; exact (Below.heap_alloc _ _ _ (by simp)).trans (World.alloc_heap_new w _)
  have hI1 : I [] W1 := by rw [← hW1]; exact hI0 _ _ h0
  refine ⟨w.heap.size + 1, [{ target := .collected w.heap.size, args := #[] }], W1, { target := .fn (.func gf) lb, args := #[.func (.yield (w.heap.size + 1)) #[] #[]] }, W1, gf,
    #[.func (.yield (w.heap.size + 1)) #[] #[]] ++ lb, W1, ?_, ?_, ?_, ?_, fun h => by simp [Fence.wide] at h, ?_⟩
  · rw [← hW1, hrec]; exact run_enterLoop_outer _ _ _ _ _
  · simp only [resolve, hg]
    simp [go_sem]
  · intro f' hf'; trivial
  · simp [invoke, go_sem, eg]
  · refine (hiter (rec .ready none) W1 hI1 ⟨hL1, hK1⟩ ?_).mono ?_
    · rintro pre x W hm ⟨hl, hk⟩
      have hlt : w.heap.size + 1 < W.heap.size := (Array.getElem?_eq_some_iff.1 hl).1
      have hy := run_yield (P := P) (args := encs x) hl (by rw [hrec]; exact hps x)
      rw [hrec] at hy
      refine ⟨fn, _, assign, body, hy, roundIn_of_wpIn hfn (hassign _ x W _ ⟨_, run_beginRound hl (by rw [hrec]), ?_⟩)⟩
      have hl2 : (W.putObj (w.heap.size + 1) (.loop { rec .ready none with state := .busy })).heap[w.heap.size + 1]? = some (.loop { rec .ready none with state := .busy }) := World.putObj_heap_same hlt
      have hk2 : (W.putObj (w.heap.size + 1) (.loop { rec .ready none with state := .busy })).heap[w.heap.size]? = some (.deferred (some [])) := (World.putObj_heap_other (by omega)).trans hk
      refine wpIn_mono (hbody pre x _ _ (hM pre x W _ hm) ⟨hl2, hk2⟩) ?_
      rintro e a3 W3 hp
      cases e with
      | normal =>
        obtain ⟨hi3, hl3, hk3⟩ := hp
        have hr := run_endRound (P := P) none hl3
        refine ⟨_, _, hr, rfl, hI _ _ _ hi3, ?_, (World.putObj_heap_other (by omega)).trans hk3⟩
        rw [World.putObj_heap_same (Array.getElem?_eq_some_iff.1 hl3).1, hrec]
        rfl
      | ret => exact hp.elim
      | exit id => exact hp.elim
      | goto t => exact hp.elim
      | panic ch => exact hp.elim
      | outgrown => exact hp.elim
    · rintro e W2 ⟨⟨v, rfl⟩, xs, he, hl, hk⟩
      exact ⟨none, _, by have := run_endLoop (P := P) hl (by rw [hrec]; simp); rw [hrec] at this; exact this, hdone xs _ (hE _ _ _ he) ((World.putObj_heap_other (by omega)).trans hk)⟩
end Go.Proofs.YtmlnhjfdhjachaaGreat

/-
  drive.Next for any routine. No condition.
-/
namespace Go.Proofs.YtmlnhjfdhjachaaGreat
set_option linter.unusedVariables false
open Go.ChangeShapes Go.WideShapes Go.ChangeAt Go.RowKit
open Go.ChangeMaps (setBlock)

theorem below_row {B : Nat} {w0 w : World} (h : Below B w0 w) (g : Nat) (cs : Array Value) (hg : B ≤ g) : Below B w0 (w.setRow g cs) :=
  h.trans ⟨rfl, rfl, rfl, by simp, fun k hk => setRow_other w g k cs (by omega)⟩
theorem chg_row {F : Nat → Prop} {a w : World} (h : Chg F a w) (g : Nat) (cs : Array Value) (hg : F g ∨ a.heap.size ≤ g) : Chg F a (w.setRow g cs) :=
  ⟨h.os, h.tape, h.output, by simpa using h.size, fun i hi hn => (setRow_other w g i cs (by
    rintro rfl
    rcases hg with hg | hg
    · exact hn hg
    · omega)).trans (h.block i hi hn)⟩
theorem stepSize : (Tryz.prog.info? 72).map (·.size) = some 9 := by kernel_rfl
theorem zeroStep : stepV 0 noAct noGot = .agg #[.int .i64 0, .int .i64 0, .int .u64 0, .int .i64 0, .int .u64 0, .int .u64 0, .string ⟨#[]⟩, .int .u64 0, .string ⟨#[]⟩] := rfl
section
variable {σ : Type} (Rt : Rout σ)
theorem next_stop {w : World} {hb : Nat} {S : PHeap} {F G : Nat → Prop} {b : Nat} {s : σ} (h : HeapIn w hb S F) (hR : Rt.R w G b s) (hno : (Rt.act s).2 = false) :
    Calls Tryz.prog 26 #[.pointer (some ⟨hb, 0, none⟩), .iface Rt.T (.pointer (some ⟨b, 0, none⟩))] w fun e w' => e = .returned (.tuple #[stepV 0 noAct noGot, .bool false]) ∧ Below w.heap.size w w' := by
  have hz : Below w.heap.size w (w.alloc (.cells #[.int .i64 0, .int .i64 0, .int .u64 0, .int .i64 0, .int .u64 0, .int .u64 0, .string ⟨#[]⟩, .int .u64 0, .string ⟨#[]⟩] 72)) := (Below.refl _ _).alloc (Nat.le_refl _) _
  have hN := next1_any Rt (Rt.below hR hz)
  rw [hno] at hN
  rcases hx : (Rt.act s).1 with ⟨k, bb, c, o, n, t⟩
  have hv : PAct.val ⟨k, bb, c, o, n, t⟩ = .agg #[.int .i64 k, .int .u64 bb, .int .i64 c, .int .u64 o, .int .u64 n, .string t] := rfl
  rw [hx, hv] at hN
  rw [zeroStep]
  clear hv hx hno
  have B1 := Blk.new w 72 #[.int .i64 0, .int .i64 0, .int .u64 0, .int .i64 0, .int .u64 0, .int .u64 0, .string ⟨#[]⟩, .int .u64 0, .string ⟨#[]⟩]
  replace hN := Lib.hid hN
  replace hz := Lib.hid hz
  replace B1 := Lib.hid B1
  replace h := Lib.hid h
  replace hR := Lib.hid hR
  go_enter Tryz.func26, Tryz.ntmps26
  go_wp2_with fail
  refine (hN.out).mono ?_; rintro e w1 ⟨rfl, hb1⟩
  have g1 := B1.out.below hb1 (by simp)
  have hB1 := nx hz.out (Nat.le_refl _) hb1
  have hs1 : w.heap.size + 1 ≤ w1.heap.size := by have := hb1.size; simpa using this
  clear hb1
  replace g1 := Lib.hid g1
  replace hB1 := Lib.hid hB1
  have hsz := stepSize
  replace hsz := Lib.hid hsz
  go_wp2_with (refine wpList_store_row rfl 72 (.tmp 4) (.tmp 25) rfl w.heap.size #[.int .i64 0, .int .i64 0, .int .u64 0, .int .i64 0, .int .u64 0, .int .u64 0, .string ⟨#[]⟩, .int .u64 0, .string ⟨#[]⟩] rfl rfl 72 _ (g1.out.alloc _) hsz.out rfl (by kernel_rfl) ?_; refine gen_world (α := fun W' => wpList _ _ _ _ _ W') (fun W' => Blk W' w.heap.size 72 #[.int .i64 0, .int .i64 0, .int .u64 0, .int .i64 0, .int .u64 0, .int .u64 0, .string ⟨#[]⟩, .int .u64 0, .string ⟨#[]⟩] ∧ Below w.heap.size w W') ⟨setRow_heap _ _ _ _ _ _ (g1.out.alloc _), below_row (Below.more_ hB1.out _) _ _ (Nat.le_refl _)⟩ ?_; rintro W2 ⟨g2, hB2⟩; replace g2 := Lib.hid g2; replace hB2 := Lib.hid hB2)
  have c0 := g2.out.cell 0
  have c1 := g2.out.cell 1
  have c2 := g2.out.cell 2
  have c3 := g2.out.cell 3
  have c4 := g2.out.cell 4
  have c5 := g2.out.cell 5
  have c6 := g2.out.cell 6
  have c7 := g2.out.cell 7
  have c8 := g2.out.cell 8
  refine bodyPost_ret (v := .tuple #[.agg #[.int .i64 0, .int .i64 0, .int .u64 0, .int .i64 0, .int .u64 0, .int .u64 0, .string ⟨#[]⟩, .int .u64 0, .string ⟨#[]⟩], .bool false]) (by simp [results, Tryz.results26, go_sem, c0, c1, c2, c3, c4, c5, c6, c7, c8]) rfl ⟨rfl, hB2.out⟩
theorem next_wait {w : World} {hb : Nat} {S : PHeap} {F G : Nat → Prop} {b : Nat} {s : σ} (h : HeapIn w hb S F) (hR : Rt.R w G b s) (off : Off F G) (hf : S.faults < 9223372036854775807) (hyes : (Rt.act s).2 = true) (hr : S.ready (Rt.act s).1 = false) :
    Calls Tryz.prog 26 #[.pointer (some ⟨hb, 0, none⟩), .iface Rt.T (.pointer (some ⟨b, 0, none⟩))] w fun e w' => e = .returned (.tuple #[stepV 0 noAct noGot, .bool false]) ∧ Went Rt F G hb b S s w w' := by
  have hz : Below w.heap.size w (w.alloc (.cells #[.int .i64 0, .int .i64 0, .int .u64 0, .int .i64 0, .int .u64 0, .int .u64 0, .string ⟨#[]⟩, .int .u64 0, .string ⟨#[]⟩] 72)) := (Below.refl _ _).alloc (Nat.le_refl _) _
  have hN := next1_any Rt (Rt.below hR hz)
  rw [hyes] at hN
  have hok := Rt.okA hR
  have hFlt : ∀ j, F j → j < w.heap.size := h.own
  have hGlt : ∀ j, G j → j < w.heap.size := Rt.own hR
  rcases hx : (Rt.act s).1 with ⟨k, bb, c, o, n, t⟩
  rw [hx] at hok hr
  have hv : PAct.val ⟨k, bb, c, o, n, t⟩ = .agg #[.int .i64 k, .int .u64 bb, .int .i64 c, .int .u64 o, .int .u64 n, .string t] := rfl
  rw [hx, hv] at hN
  have hRd := fun (W : World) (h1 : HeapIn W hb S F) => ready_any h1 ⟨k, bb, c, o, n, t⟩ hok hf
  rw [hr, hv] at hRd
  rw [zeroStep]
  clear hx hyes hr hv hok
  have B1 := Blk.new w 72 #[.int .i64 0, .int .i64 0, .int .u64 0, .int .i64 0, .int .u64 0, .int .u64 0, .string ⟨#[]⟩, .int .u64 0, .string ⟨#[]⟩]
  have hsz := stepSize
  replace hsz := Lib.hid hsz
  replace hN := Lib.hid hN
  replace hRd := Lib.hid hRd
  replace hz := Lib.hid hz
  replace B1 := Lib.hid B1
  replace h := Lib.hid h
  replace hR := Lib.hid hR
  replace off := Lib.hid off
  replace hFlt := Lib.hid hFlt
  replace hGlt := Lib.hid hGlt
  go_enter Tryz.func26, Tryz.ntmps26
  go_wp2_with fail
  refine (hN.out).mono ?_; rintro e w1 ⟨rfl, hb1⟩
  have g1 := B1.out.below hb1 (by simp)
  have hB1 := nx hz.out (Nat.le_refl _) hb1
  have hs1 : w.heap.size + 1 ≤ w1.heap.size := by have := hb1.size; simpa using this
  clear hb1
  replace g1 := Lib.hid g1
  replace hB1 := Lib.hid hB1
  have hB1' : Below w.heap.size w (w1.alloc (.cells #[.int .i64 k, .int .u64 bb, .int .i64 c, .int .u64 o, .int .u64 n, .string t] 31)) := Below.more_ hB1.out _
  have bx := Blk.new w1 31 #[.int .i64 k, .int .u64 bb, .int .i64 c, .int .u64 o, .int .u64 n, .string t]
  have bx0 := bx.cell 0
  replace hB1' := Lib.hid hB1'
  replace bx := Lib.hid bx
  go_wp2_with fail
  refine (hRd.out _ (h.out.below hB1'.out)).mono ?_; rintro e w2 ⟨rfl, ht⟩
  have hs2 : w1.heap.size + 1 ≤ w2.heap.size := by have := ht.2.size; simpa using this
  have g2 := (g1.out.alloc (.cells #[.int .i64 k, .int .u64 bb, .int .i64 c, .int .u64 o, .int .u64 n, .string t] 31)).keep (ht.2.block w.heap.size (by simp; omega) (fun hf => by have := hFlt.out _ hf; omega))
  have bx2 := bx.out.keep (ht.2.block w1.heap.size (by simp) (fun hf => by have := hFlt.out _ hf; omega))
  have hR2 := Rt.keep (Rt.below hR.out hB1'.out) ht.2.size fun j hj => ht.2.block j (by have := hGlt.out j hj; simp; omega) (fun hf => off.out j hf hj)
  have hc2 : Chg F w w2 := (Chg.of_below hB1'.out F).trans ht.2 fun _ h => .inl h
  clear bx0
  replace ht := Lib.hid ht
  replace g2 := Lib.hid g2
  replace bx2 := Lib.hid bx2
  replace hR2 := Lib.hid hR2
  replace hc2 := Lib.hid hc2
  have hW : Went Rt F G hb b S s w (w2.setRow w.heap.size #[.int .i64 0, .int .i64 0, .int .u64 0, .int .i64 0, .int .u64 0, .int .u64 0, .string ⟨#[]⟩, .int .u64 0, .string ⟨#[]⟩]) := by
    have hne : ∀ j, (nw F (w1.alloc (.cells #[.int .i64 k, .int .u64 bb, .int .i64 c, .int .u64 o, .int .u64 n, .string t] 31)) w2 j ∨ G j) → j ≠ w.heap.size := by
      rintro j ((hj | hj) | hj) rfl
      · have := hFlt.out _ hj; omega
      · have := hj.1; simp at this; omega
      · have := hGlt.out _ hj; omega
    refine ⟨⟨_, G, ht.out.1.keep (by simp) fun j hj => setRow_other _ _ _ _ (hne j (.inl hj)), Rt.keep hR2.out (by simp) fun j hj => setRow_other _ _ _ _ (hne j (.inr hj)), ?_, ?_⟩, ?_⟩
    · rintro j (hj | hj) hg
      · exact off.out j hj hg
      · have := hGlt.out j hg; have := hj.1; simp at this; omega
    · rintro j ((hj | hj) | hj)
      · exact .inl (.inl hj)
      · have := hj.1; simp at this; exact .inr (by omega)
      · exact .inl (.inr hj)
    · exact chg_row (hc2.out.mono fun _ h => .inl h) _ _ (.inr (Nat.le_refl _))
  replace hW := Lib.hid hW
  go_wp2_with (refine wpList_store_row rfl 72 (.tmp 4) (.tmp 25) rfl w.heap.size #[.int .i64 0, .int .i64 0, .int .u64 0, .int .i64 0, .int .u64 0, .int .u64 0, .string ⟨#[]⟩, .int .u64 0, .string ⟨#[]⟩] rfl rfl 72 _ g2.out hsz.out rfl (by kernel_rfl) ?_; refine gen_world (α := fun W' => wpList _ _ _ _ _ W') (fun W' => Blk W' w.heap.size 72 #[.int .i64 0, .int .i64 0, .int .u64 0, .int .i64 0, .int .u64 0, .int .u64 0, .string ⟨#[]⟩, .int .u64 0, .string ⟨#[]⟩] ∧ Went Rt F G hb b S s w W') ⟨setRow_heap _ _ _ _ _ _ g2.out, hW.out⟩ ?_; clear g2; rintro W2 ⟨g2, hB2⟩; replace g2 := Lib.hid g2; replace hB2 := Lib.hid hB2)
  have c0 := g2.out.cell 0
  have c1 := g2.out.cell 1
  have c2 := g2.out.cell 2
  have c3 := g2.out.cell 3
  have c4 := g2.out.cell 4
  have c5 := g2.out.cell 5
  have c6 := g2.out.cell 6
  have c7 := g2.out.cell 7
  have c8 := g2.out.cell 8
  refine bodyPost_ret (v := .tuple #[.agg #[.int .i64 0, .int .i64 0, .int .u64 0, .int .i64 0, .int .u64 0, .int .u64 0, .string ⟨#[]⟩, .int .u64 0, .string ⟨#[]⟩], .bool false]) (by simp [results, Tryz.results26, go_sem, c0, c1, c2, c3, c4, c5, c6, c7, c8]) rfl ⟨rfl, hB2.out⟩
def GoPost (F G : Nat → Prop) (hb b : Nat) (S : PHeap) (s : σ) (w : World) (e : Ending) (w' : World) : Prop :=
  ∃ r, e = .returned (.tuple #[stepV 0 (Rt.act s).1 (S.act (Rt.act s).1 r).1, .bool true]) ∧ Went Rt F G hb b (S.act (Rt.act s).1 r).2 (Rt.take s (S.act (Rt.act s).1 r).1) w w'
theorem next_go {w : World} {hb : Nat} {S : PHeap} {F G : Nat → Prop} {b : Nat} {s : σ} (h : HeapIn w hb S F) (hR : Rt.R w G b s) (off : Off F G) (hf : S.faults < 9223372036854775807) (hyes : (Rt.act s).2 = true) (hla : S.last < 9223372036854775807) (hr : S.ready (Rt.act s).1 = true) :
    Calls Tryz.prog 26 #[.pointer (some ⟨hb, 0, none⟩), .iface Rt.T (.pointer (some ⟨b, 0, none⟩))] w (GoPost Rt F G hb b S s w) := by
  have hz : Below w.heap.size w (w.alloc (.cells #[.int .i64 0, .int .i64 0, .int .u64 0, .int .i64 0, .int .u64 0, .int .u64 0, .string ⟨#[]⟩, .int .u64 0, .string ⟨#[]⟩] 72)) := (Below.refl _ _).alloc (Nat.le_refl _) _
  have hN := next1_any Rt (Rt.below hR hz)
  rw [hyes] at hN
  have hok := Rt.okA hR
  have hFlt : ∀ j, F j → j < w.heap.size := h.own
  have hGlt : ∀ j, G j → j < w.heap.size := Rt.own hR
  rcases hx : (Rt.act s).1 with ⟨k, bb, c, o, n, t⟩
  rw [hx] at hok hr
  have hv : PAct.val ⟨k, bb, c, o, n, t⟩ = .agg #[.int .i64 k, .int .u64 bb, .int .i64 c, .int .u64 o, .int .u64 n, .string t] := rfl
  rw [hx, hv] at hN
  have hRd := fun (W : World) (h1 : HeapIn W hb S F) => ready_any h1 ⟨k, bb, c, o, n, t⟩ hok hf
  rw [hr, hv] at hRd
  have hDo := fun (W : World) (G : Nat → Prop) (h1 : HeapIn W hb S G) => do_any h1 ⟨k, bb, c, o, n, t⟩ hok hf hla
  rw [hv] at hDo
  have hpost : ∀ (r : Nat) (e : Ending) (w' : World), e = .returned (.tuple #[stepV 0 ⟨k, bb, c, o, n, t⟩ (S.act ⟨k, bb, c, o, n, t⟩ r).1, .bool true]) → Went Rt F G hb b (S.act ⟨k, bb, c, o, n, t⟩ r).2 (Rt.take s (S.act ⟨k, bb, c, o, n, t⟩ r).1) w w' → GoPost Rt F G hb b S s w e w' := by
    intro r e w' he hw
    refine ⟨r, ?_, ?_⟩
    · rw [hx]; exact he
    · rw [hx]; exact hw
  have hgok := fun (W : World) (G : Nat → Prop) (h1 : HeapIn W hb S G) (r : Nat) => act_ok h1 hla ⟨k, bb, c, o, n, t⟩ r
  have mT := Rt.mTake
  have nT := Rt.nTake
  have eT := Rt.eTake
  clear hx hr hv hok
  replace hyes := Lib.hid hyes
  replace hDo := Lib.hid hDo
  replace hpost := Lib.hid hpost
  replace hgok := Lib.hid hgok
  have B1 := Blk.new w 72 #[.int .i64 0, .int .i64 0, .int .u64 0, .int .i64 0, .int .u64 0, .int .u64 0, .string ⟨#[]⟩, .int .u64 0, .string ⟨#[]⟩]
  have hsz := stepSize
  replace hsz := Lib.hid hsz
  replace hN := Lib.hid hN
  replace hRd := Lib.hid hRd
  replace hz := Lib.hid hz
  replace B1 := Lib.hid B1
  replace h := Lib.hid h
  replace hR := Lib.hid hR
  replace off := Lib.hid off
  replace hFlt := Lib.hid hFlt
  replace hGlt := Lib.hid hGlt
  go_enter Tryz.func26, Tryz.ntmps26
  go_wp2_with fail
  refine (hN.out).mono ?_; rintro e w1 ⟨rfl, hb1⟩
  have g1 := B1.out.below hb1 (by simp)
  have hB1 := nx hz.out (Nat.le_refl _) hb1
  have hs1 : w.heap.size + 1 ≤ w1.heap.size := by have := hb1.size; simpa using this
  clear hb1
  replace g1 := Lib.hid g1
  replace hB1 := Lib.hid hB1
  have hB1' : Below w.heap.size w (w1.alloc (.cells #[.int .i64 k, .int .u64 bb, .int .i64 c, .int .u64 o, .int .u64 n, .string t] 31)) := Below.more_ hB1.out _
  have bx := Blk.new w1 31 #[.int .i64 k, .int .u64 bb, .int .i64 c, .int .u64 o, .int .u64 n, .string t]
  have bx0 := bx.cell 0
  replace hB1' := Lib.hid hB1'
  replace bx := Lib.hid bx
  go_wp2_with fail
  refine (hRd.out _ (h.out.below hB1'.out)).mono ?_; rintro e w2 ⟨rfl, ht⟩
  have hs2 : w1.heap.size + 1 ≤ w2.heap.size := by have := ht.2.size; simpa using this
  have g2 := (g1.out.alloc (.cells #[.int .i64 k, .int .u64 bb, .int .i64 c, .int .u64 o, .int .u64 n, .string t] 31)).keep (ht.2.block w.heap.size (by simp; omega) (fun hf => by have := hFlt.out _ hf; omega))
  have bx2 := bx.out.keep (ht.2.block w1.heap.size (by simp) (fun hf => by have := hFlt.out _ hf; omega))
  have hR2 := Rt.keep (Rt.below hR.out hB1'.out) ht.2.size fun j hj => ht.2.block j (by have := hGlt.out j hj; simp; omega) (fun hf => off.out j hf hj)
  have hc2 : Chg F w w2 := (Chg.of_below hB1'.out F).trans ht.2 fun _ h => .inl h
  clear bx0
  replace ht := Lib.hid ht
  replace g2 := Lib.hid g2
  replace bx2 := Lib.hid bx2
  replace hR2 := Lib.hid hR2
  replace hc2 := Lib.hid hc2
  have bx20 := bx2.out.cell 0
  have bx21 := bx2.out.cell 1
  have bx22 := bx2.out.cell 2
  have bx23 := bx2.out.cell 3
  have bx24 := bx2.out.cell 4
  have bx25 := bx2.out.cell 5
  go_wp2_with fail
  refine (hDo.out _ _ ht.out.1).mono ?_; rintro e w3 ⟨r, rfl, hd⟩
  have hgo := hgok.out _ _ ht.out.1 r
  have hpo := hpost.out r
  clear hpost hgok hDo bx20 bx21 bx22 bx23 bx24 bx25
  generalize (S.act ⟨k, bb, c, o, n, t⟩ r).2 = S' at *
  rcases hgx : (S.act ⟨k, bb, c, o, n, t⟩ r).1 with ⟨gw, gt⟩
  rw [hgx] at hgo hpo
  have hgv : PGot.val ⟨gw, gt⟩ = .agg #[.int .u64 gw, .string gt] := rfl
  rw [hgv]
  clear hgx
  replace hpo := Lib.hid hpo
  have hs3 : w2.heap.size ≤ w3.heap.size := hd.2.size
  have hnF : ∀ j, w.heap.size ≤ j → j < w1.heap.size + 1 → ¬ nw F (w1.alloc (.cells #[.int .i64 k, .int .u64 bb, .int .i64 c, .int .u64 o, .int .u64 n, .string t] 31)) w2 j := by
    rintro j h1 h2 (hj | hj)
    · have := hFlt.out _ hj; omega
    · have := hj.1; simp at this; omega
  have hnG : ∀ j, G j → ¬ nw F (w1.alloc (.cells #[.int .i64 k, .int .u64 bb, .int .i64 c, .int .u64 o, .int .u64 n, .string t] 31)) w2 j := by
    rintro j hg (hj | hj)
    · exact off.out j hj hg
    · have := hGlt.out j hg; have := hj.1; simp at this; omega
  have g3 := (g2.out.keep (hd.2.block w.heap.size (by omega) (hnF _ (Nat.le_refl _) (by omega)))).alloc (.cells #[.int .u64 gw, .string gt] 52)
  have bx3 := (bx2.out.keep (hd.2.block w1.heap.size (by omega) (hnF _ (by omega) (by omega)))).alloc (.cells #[.int .u64 gw, .string gt] 52)
  have bg3 := Blk.new w3 52 #[.int .u64 gw, .string gt]
  have hR3 := Rt.keep hR2.out (w' := w3.alloc (.cells #[.int .u64 gw, .string gt] 52)) (by simp; omega) fun j hj => (Below.heap_alloc w3 _ j (by have := hGlt.out j hj; omega)).trans (hd.2.block j (by have := hGlt.out j hj; omega) (hnG j hj))
  have hT := Rt.cTake ⟨gw, gt⟩ hR3 hgo hyes.out
  rw [hgv] at hT
  have c30 := bg3.cell 0
  have c31 := bg3.cell 1
  have x30 := bx3.cell 0
  have x31 := bx3.cell 1
  have x32 := bx3.cell 2
  have x33 := bx3.cell 3
  have x34 := bx3.cell 4
  have x35 := bx3.cell 5
  clear hgo hgv
  replace hd := Lib.hid hd
  replace hT := Lib.hid hT
  replace g3 := Lib.hid g3
  replace bx3 := Lib.hid bx3
  replace bg3 := Lib.hid bg3
  replace hnF := Lib.hid hnF
  replace hnG := Lib.hid hnG
  go_wp2_with fail
  refine (hT.out).mono ?_; rintro e w4 ⟨rfl, hR4, hc4⟩
  have hs4 : w3.heap.size + 1 ≤ w4.heap.size := by have := hc4.size; simpa using this
  have hGn : ∀ j, w.heap.size ≤ j → ¬ G j := fun j hj hg => by have := hGlt.out j hg; omega
  have g4 := g3.out.keep (hc4.block w.heap.size (by simp; omega) (hGn _ (by omega)))
  have bx4 := bx3.out.keep (hc4.block w1.heap.size (by simp; omega) (hGn _ (by omega)))
  have bg4 := bg3.out.keep (hc4.block w3.heap.size (by simp) (hGn _ (by omega)))
  clear c30 c31 x30 x31 x32 x33 x34 x35
  have hFs : ∀ j, nw (nw F (w1.alloc (.cells #[.int .i64 k, .int .u64 bb, .int .i64 c, .int .u64 o, .int .u64 n, .string t] 31)) w2) w2 w3 j → j < w3.heap.size ∧ j ≠ w.heap.size ∧ ¬ G j ∧ (F j ∨ w.heap.size ≤ j) := by
    rintro j ((hj | hj) | hj)
    · have := hFlt.out j hj
      exact ⟨by omega, by omega, fun hg => off.out j hj hg, .inl hj⟩
    · have h1 := hj.1
      simp at h1
      exact ⟨by omega, by omega, hGn j (by omega), .inr (by omega)⟩
    · exact ⟨hj.2, by omega, hGn j (by omega), .inr (by omega)⟩
  have hGs : ∀ j, nw G (w3.alloc (.cells #[.int .u64 gw, .string gt] 52)) w4 j → j ≠ w.heap.size ∧ (G j ∨ w3.heap.size < j) := by
    rintro j (hj | hj)
    · have := hGlt.out j hj
      exact ⟨by omega, .inl hj⟩
    · have h1 := hj.1
      simp at h1
      exact ⟨by omega, .inr (by omega)⟩
  have hW : Went Rt F G hb b S' (Rt.take s ⟨gw, gt⟩) w (w4.setRow w.heap.size #[.int .i64 0, .int .i64 k, .int .u64 bb, .int .i64 c, .int .u64 o, .int .u64 n, .string t, .int .u64 gw, .string gt]) := by
    refine ⟨⟨_, _, hd.out.1.keep (w' := w4.setRow w.heap.size #[.int .i64 0, .int .i64 k, .int .u64 bb, .int .i64 c, .int .u64 o, .int .u64 n, .string t, .int .u64 gw, .string gt]) (by simp; omega) fun j hj => ?_, Rt.keep hR4 (w' := w4.setRow w.heap.size #[.int .i64 0, .int .i64 k, .int .u64 bb, .int .i64 c, .int .u64 o, .int .u64 n, .string t, .int .u64 gw, .string gt]) (by simp) fun j hj => setRow_other _ _ _ _ (hGs j hj).1, ?_, fun j hj => ?_⟩, ?_⟩
    · obtain ⟨h1, h2, h3, _⟩ := hFs j hj
      rw [setRow_other _ _ _ _ h2, hc4.block j (by simp; omega) h3]
      exact Below.heap_alloc w3 _ j h1
    · intro j hj hg
      obtain ⟨h1, h2, h3, _⟩ := hFs j hj
      rcases (hGs j hg).2 with hg | hg
      · exact h3 hg
      · omega
    · rcases hj with hj | hj
      · exact (hFs j hj).2.2.2.imp .inl id
      · rcases (hGs j hj).2 with hg | hg
        · exact .inl (.inr hg)
        · exact .inr (by omega)
    · refine chg_row ?_ _ _ (.inr (Nat.le_refl _))
      have k1 : Chg (fun k => F k ∨ G k) w w3 := (hc2.out.mono (G := fun k => F k ∨ G k) fun _ h => .inl h).trans hd.out.2 fun j hj => by
        rcases hj with hj | hj
        · exact .inl (.inl hj)
        · have := hj.1; simp at this; exact .inr (by omega)
      exact (k1.alloc _).trans hc4 fun j hj => .inl (.inr hj)
  replace hW := Lib.hid hW
  have x40 := bx4.cell 0
  have x41 := bx4.cell 1
  have x42 := bx4.cell 2
  have x43 := bx4.cell 3
  have x44 := bx4.cell 4
  have x45 := bx4.cell 5
  have g40 := bg4.cell 0
  have g41 := bg4.cell 1
  replace bx4 := Lib.hid bx4
  replace bg4 := Lib.hid bg4
  replace g4 := Lib.hid g4
  replace hc4 := Lib.hid hc4
  replace hR4 := Lib.hid hR4
  replace hFs := Lib.hid hFs
  replace hGs := Lib.hid hGs
  replace hGn := Lib.hid hGn
  go_wp2_with (refine wpList_store_row rfl 72 (.tmp 4) (.tmp 34) rfl w.heap.size #[.int .i64 0, .int .i64 k, .int .u64 bb, .int .i64 c, .int .u64 o, .int .u64 n, .string t, .int .u64 gw, .string gt] rfl rfl 72 _ g4.out hsz.out rfl (by kernel_rfl) ?_; refine gen_world (α := fun W' => wpList _ _ _ _ _ W') (fun W' => Blk W' w.heap.size 72 #[.int .i64 0, .int .i64 k, .int .u64 bb, .int .i64 c, .int .u64 o, .int .u64 n, .string t, .int .u64 gw, .string gt] ∧ Went Rt F G hb b S' (Rt.take s ⟨gw, gt⟩) w W') ⟨setRow_heap _ _ _ _ _ _ g4.out, hW.out⟩ ?_; rintro W2 ⟨g5, hB2⟩; replace g5 := Lib.hid g5; replace hB2 := Lib.hid hB2)
  have c0 := g5.out.cell 0
  have c1 := g5.out.cell 1
  have c2 := g5.out.cell 2
  have c3 := g5.out.cell 3
  have c4 := g5.out.cell 4
  have c5 := g5.out.cell 5
  have c6 := g5.out.cell 6
  have c7 := g5.out.cell 7
  have c8 := g5.out.cell 8
  refine bodyPost_ret (v := .tuple #[.agg #[.int .i64 0, .int .i64 k, .int .u64 bb, .int .i64 c, .int .u64 o, .int .u64 n, .string t, .int .u64 gw, .string gt], .bool true]) (by simp [results, Tryz.results26, go_sem, c0, c1, c2, c3, c4, c5, c6, c7, c8]) rfl (hpo.out _ _ rfl hB2.out)
end
end Go.Proofs.YtmlnhjfdhjachaaGreat

/-
  drive.Steps: a routine's acts, handed out as they are done. No condition.
-/
namespace Go.Proofs.YtmlnhjfdhjachaaGreat
set_option linter.unusedVariables false
open Go.ChangeShapes Go.WideShapes Go.ChangeAt Go.RowKit Go.Shelf
open Go.ChangeMaps (setBlock)

section
variable {σ : Type} (Rt : Rout σ)
/-- Steps that are done, one behind the other. -/
def Runs : PHeap → σ → List (PAct × PGot) → PHeap → σ → Prop
  | S, s, [], S', s' => S = S' ∧ s = s'
  | S, s, x :: xs, S', s' => Rt.can S s = true ∧ ∃ r, x = ((Rt.act s).1, (S.act (Rt.act s).1 r).1) ∧ Runs (S.act (Rt.act s).1 r).2 (Rt.take s (S.act (Rt.act s).1 r).1) xs S' s'
theorem Runs.snoc : ∀ {xs : List (PAct × PGot)} {S S1 : PHeap} {s s1 : σ}, Runs Rt S s xs S1 s1 → Rt.can S1 s1 = true → ∀ r, Runs Rt S s (xs ++ [((Rt.act s1).1, (S1.act (Rt.act s1).1 r).1)]) (S1.act (Rt.act s1).1 r).2 (Rt.take s1 (S1.act (Rt.act s1).1 r).1)
  | [], S, S1, s, s1, h, hc, r => by
    obtain ⟨rfl, rfl⟩ := h
    exact ⟨hc, r, rfl, rfl, rfl⟩
  | x :: xs, S, S1, s, s1, h, hc, r => by
    obtain ⟨h1, r1, rfl, h2⟩ := h
    exact ⟨h1, r1, rfl, Runs.snoc h2 hc r⟩
theorem act_faults (S : PHeap) (x : PAct) (r : Nat) : (S.act x r).2.faults ≤ S.faults + 1 ∧ (S.act x r).2.last ≤ S.last + 1 := by
  have h1 : S.faults ≤ S.faults + 1 ∧ S.last ≤ S.last + 1 := by omega
  have hf : S.fault.faults ≤ S.faults + 1 ∧ S.fault.last ≤ S.last + 1 := by show S.faults + 1 ≤ _ ∧ S.last ≤ _; omega
  have hset : ∀ b i v, (S.set b i v).faults ≤ S.faults + 1 ∧ (S.set b i v).last ≤ S.last + 1 := fun b i v => h1
  unfold PHeap.act
  split
  · exact h1
  · split
    · unfold PHeap.load; split
      · exact h1
      · exact hf
    · split
      · unfold PHeap.store; split
        · exact hset _ _ _
        · exact hf
      · split
        · unfold PHeap.swap; split
          · simp only; split
            · exact hset _ _ _
            · exact h1
          · exact hf
        · split
          · unfold PHeap.bump; split
            · exact hset _ _ _
            · exact hf
          · split
            · unfold PHeap.make; split
              · show S.faults ≤ _ ∧ S.last + 1 ≤ _; omega
              · exact h1
            · split
              · unfold PHeap.words; split
                · exact h1
                · exact hf
              · split
                · unfold PHeap.drop; split
                  · exact h1
                  · exact hf
                · split
                  · exact h1
                  · split
                    · unfold PHeap.unlock; split
                      · exact h1
                      · exact hf
                    · exact h1
theorem Runs.bounds : ∀ {xs : List (PAct × PGot)} {S S1 : PHeap} {s s1 : σ}, Runs Rt S s xs S1 s1 → S1.faults ≤ S.faults + xs.length ∧ S1.last ≤ S.last + xs.length
  | [], S, S1, s, s1, h => by
    obtain ⟨rfl, rfl⟩ := h
    simp
  | x :: xs, S, S1, s, s1, h => by
    obtain ⟨h1, r1, rfl, h2⟩ := h
    have h3 := Runs.bounds h2
    have h4 := act_faults S (Rt.act s).1 r1
    simp only [List.length_cons]
    omega

/-- Between two steps: the heap, the routine, and what Steps has captured. -/
structure Mid (Z : Nat → Prop) (hb b bm bh br : Nat) (most : Int) (S0 : PHeap) (s0 : σ) (xs : List (PAct × PGot)) (W : World) : Prop where
  ex : ∃ S s F G, Runs Rt S0 s0 xs S s ∧ HeapIn W hb S F ∧ Rt.R W G b s ∧ Off F G ∧ ∀ k, F k ∨ G k → Z k
  bm : Blk W bm 3 #[.int .i64 most]
  bh : Blk W bh 54 #[.pointer (some ⟨hb, 0, none⟩)]
  br : Blk W br 130 #[.iface Rt.T (.pointer (some ⟨b, 0, none⟩))]
  len : ((xs.length : Nat) : Int) ≤ most ∨ xs = []
/-- The end: as many steps as were asked, or the routine can't go on. -/
structure Fin (Z : Nat → Prop) (hb b : Nat) (most : Int) (S0 : PHeap) (s0 : σ) (xs : List (PAct × PGot)) (W : World) : Prop where
  ex : ∃ S s F G, Runs Rt S0 s0 xs S s ∧ HeapIn W hb S F ∧ Rt.R W G b s ∧ Off F G ∧ (∀ k, F k ∨ G k → Z k) ∧ (most ≤ xs.length ∨ Rt.can S s = false) ∧ (xs.length ≤ most ∨ xs = [])
def encS (x : PAct × PGot) : Array Value := #[stepV 0 x.1 x.2]
theorem Mid.stay {Z : Nat → Prop} {hb b bm bh br : Nat} {most : Int} {S0 : PHeap} {s0 : σ} {xs : List (PAct × PGot)} {W W' : World} (h : Mid Rt Z hb b bm bh br most S0 s0 xs W) (hb' : Below W.heap.size W W') : Mid Rt Z hb b bm bh br most S0 s0 xs W' := by
  obtain ⟨⟨S, s, F, G, h1, h2, h3, h4, h5⟩, h6, h7, h8, h9⟩ := h
  exact ⟨⟨S, s, F, G, h1, h2.below hb', Rt.below h3 hb', h4, h5⟩, h6.below hb' h6.lt, h7.below hb' h7.lt, h8.below hb' h8.lt, h9⟩
theorem mid_went {Z : Nat → Prop} {B1 : Nat} (hZ : ∀ k, B1 ≤ k → Z k) {hb b bm bh br : Nat} {most : Int} {S0 S : PHeap} {s0 s : σ} {xs : List (PAct × PGot)} {w w2 : World} {F G : Nat → Prop} (hBW : B1 ≤ w.heap.size) (hFG : ∀ k, F k ∨ G k → Z k) (hzm : ¬ Z bm) (hzh : ¬ Z bh) (hzr : ¬ Z br)
    (hrun : Runs Rt S0 s0 xs S s) (hw : Went Rt F G hb b S s w w2) (b1 : Blk w bm 3 #[.int .i64 most]) (b2 : Blk w bh 54 #[.pointer (some ⟨hb, 0, none⟩)]) (b3 : Blk w br 130 #[.iface Rt.T (.pointer (some ⟨b, 0, none⟩))]) (hlen : ((xs.length : Nat) : Int) ≤ most ∨ xs = []) :
    Mid Rt Z hb b bm bh br most S0 s0 xs w2 ∧ Chg Z w w2 := by
  have hc : Chg Z w w2 := hw.chg.mono hFG
  obtain ⟨F', G', h1, h2, h3, h4⟩ := hw.ex
  refine ⟨⟨⟨S, s, F', G', hrun, h1, h2, h3, ?_⟩, b1.keep (hc.block _ b1.lt hzm), b2.keep (hc.block _ b2.lt hzh), b3.keep (hc.block _ b3.lt hzr), hlen⟩, hc⟩
  intro k hk
  rcases h4 k hk with hk | hk
  · exact hFG k hk
  · exact hZ k (by omega)
theorem book_chg {Z : Nat → Prop} {l D : Nat} {rec : Loop} {w w' : World} (h : Book l D rec w) (hc : Chg Z w w') (hzl : ¬ Z l) (hzD : ¬ Z D) : Book l D rec w' :=
  ⟨(hc.block l (Array.getElem?_eq_some_iff.1 h.1).1 hzl).trans h.1, (hc.block D (Array.getElem?_eq_some_iff.1 h.2).1 hzD).trans h.2⟩
def IterRel (Z : Nat → Prop) (B1 : Nat) (hb b bm bh br : Nat) (most : Int) (S0 : PHeap) (s0 : σ) (Cl : List (PAct × PGot) → World → Prop) (l D : Nat) (rec : Loop) (i : Value) (wr : World) : Prop :=
  ∃ pre, B1 ≤ wr.heap.size ∧ i = .int .i64 (pre.length : Nat) ∧ ((pre.length : Int) ≤ most ∨ pre = []) ∧ Mid Rt Z hb b bm bh br most S0 s0 pre wr ∧ Cl pre wr ∧ Book l D rec wr
def IterPost (Z : Nat → Prop) (hb b : Nat) (most : Int) (S0 : PHeap) (s0 : σ) (Cl : List (PAct × PGot) → World → Prop) (l D : Nat) (rec : Loop) (e : Ending) (W' : World) : Prop :=
  (∃ v, e = .returned v) ∧ ∃ xs, (Fin Rt Z hb b most S0 s0 xs W' ∧ Cl xs W') ∧ Book l D rec W'
attribute [local go_sem] Oper.semAt_some
set_option maxHeartbeats 1000000 in
theorem steps_iter (Z : Nat → Prop) (B1 : Nat) (hZ : ∀ k, B1 ≤ k → Z k) (hb b bm bh br : Nat) (most : Int) (hm : most ≤ 1000000) (S0 : PHeap) (hf : S0.faults ≤ 1000000000) (hla : S0.last ≤ 1000000000) (s0 : σ)
    (Cl : List (PAct × PGot) → World → Prop) (hCl : ∀ pre W W', Cl pre W → Chg Z W W' → Cl pre W') (l D : Nat) (hzl : ¬ Z l) (hzD : ¬ Z D) (hzm : ¬ Z bm) (hzh : ¬ Z bh) (hzr : ¬ Z br) (rec : Loop)
    (hY : ∀ pre x W1, Mid Rt Z hb b bm bh br most S0 s0 (pre ++ [x]) W1 → Cl pre W1 → Book l D rec W1 → YieldAt Fence.wide 0 Tryz.prog l (encS x) W1 fun e W' => e = .returned (.bool true) ∧ (Mid Rt Z hb b bm bh br most S0 s0 (pre ++ [x]) W' ∧ Cl (pre ++ [x]) W') ∧ Book l D rec W')
    (W : World) (hM : Mid Rt Z hb b bm bh br most S0 s0 [] W) (hC : Cl [] W) (hB : Book l D rec W) (hBl : B1 ≤ l + 1) :
    CallsIn Fence.wide 0 Tryz.prog 93 (#[.func (.yield l) #[] #[]] ++ #[.pointer (some ⟨bm, 0, none⟩), .pointer (some ⟨bh, 0, none⟩), .pointer (some ⟨br, 0, none⟩)]) W (IterPost Rt Z hb b most S0 s0 Cl l D rec) := by
  have hBW : B1 ≤ W.heap.size := by have := (Array.getElem?_eq_some_iff.1 hB.1).1; omega
  have cm := hM.bm.cell 0
  replace hY := Lib.hid hY
  replace hCl := Lib.hid hCl
  replace hM := Lib.hid hM
  replace hC := Lib.hid hC
  replace hB := Lib.hid hB
  refine callsIn_of_wp Tryz.func93 rfl trivial ?_ rfl
  simp only [Tryz.ntmps93, List.size_toArray, List.length_cons, List.length_nil, Nat.reduceAdd, Nat.reduceSub, Array.replicate_succ, Array.replicate_zero, List.push_toArray, List.append_toArray, List.nil_append, List.cons_append]
  have finS : ∀ (pre : List (PAct × PGot)) (S : PHeap) (s : σ) (F G : Nat → Prop) (w' : World), Runs Rt S0 s0 pre S s → HeapIn w' hb S F → Rt.R w' G b s → Off F G → (∀ k, F k ∨ G k → Z k) → (most ≤ pre.length ∨ Rt.can S s = false) → ((pre.length : Int) ≤ most ∨ pre = []) → Cl pre w' → Book l D rec w' → IterPost Rt Z hb b most S0 s0 Cl l D rec (.returned (.tuple #[])) w' :=
    fun pre S s F G w' h1 h2 h3 h4 h5 h6 h7 h8 h9 => ⟨⟨_, rfl⟩, pre, ⟨⟨S, s, F, G, h1, h2, h3, h4, h5, h6, h7⟩, h8⟩, h9⟩
  replace finS := Lib.hid finS
  by_cases hneg : most ≤ 0
  · gi_wp2
    all_goals
      gi_loopw [9] (fun i wr => i = .int .i64 0 ∧ W = wr) (fun _ _ => 0)
      case atStart => exact ⟨rfl, rfl⟩
      case round =>
        obtain ⟨rfl, rfl⟩ := hrel
        gi_wp2
        go_end0
        obtain ⟨⟨S, s, F, G, hrun, hH, hR, hoff, hFG⟩, b1, b2, b3, _⟩ := hM.out
        exact finS.out [] S s F G _ hrun hH hR hoff hFG (.inl (by simpa using hneg)) (.inr rfl) hC.out hB.out
  · gi_wp2
    gi_loopw [9] (fun i wr => IterRel Rt Z B1 hb b bm bh br most S0 s0 Cl l D rec i wr) (fun i _ => (most - intOf i).toNat)
    case atStart => exact ⟨[], hBW, rfl, .inr rfl, hM.out, hC.out, hB.out⟩
    case round =>
      obtain ⟨pre, hBr0, rfl, hle, hMr, hCr, hBr⟩ := hrel
      have ch := hMr.bh.cell 0
      have cr := hMr.br.cell 0
      obtain ⟨⟨S, s, F, G, hrun, hH, hR, hoff, hFG⟩, b1, b2, b3, _⟩ := hMr
      replace hH := Lib.hid hH
      replace hR := Lib.hid hR
      replace hoff := Lib.hid hoff
      replace hFG := Lib.hid hFG
      replace b1 := Lib.hid b1
      replace b2 := Lib.hid b2
      replace b3 := Lib.hid b3
      replace hCr := Lib.hid hCr
      replace hBr := Lib.hid hBr
      replace hrun := Lib.hid hrun
      replace hle := Lib.hid hle
      by_cases hlt : (pre.length : Int) < most
      · have hbd := hrun.out.bounds
        have hfS : S.faults < 9223372036854775807 := by omega
        have hlS : S.last < 9223372036854775807 := by omega
        replace hbd := Lib.hid hbd
        by_cases hact : (Rt.act s).2 = true
        · by_cases hrd : S.ready (Rt.act s).1 = true
          · have hcan : Rt.can S s = true := by unfold Rout.can; rw [hact, hrd]; rfl
            have hN := next_go Rt hH.out hR.out hoff.out hfS hact hlS hrd
            replace hN := Lib.hid hN
            replace hcan := Lib.hid hcan
            clear hact hrd
            gi_wp2
            refine ⟨trivial, rfl, (callsIn_wide.2 hN.out).mono ?_⟩
            rintro e w2 ⟨r, rfl, hw⟩
            have hrun2 := Runs.snoc Rt hrun.out hcan.out r
            obtain ⟨hM2, hc2⟩ := mid_went Rt hZ hBr0 hFG.out hzm hzh hzr hrun2 hw b1.out b2.out b3.out (.inl (by simp; omega))
            generalize (S.act (Rt.act s).1 r).2 = S' at *
            generalize Rt.take s (S.act (Rt.act s).1 r).1 = s' at *
            generalize (S.act (Rt.act s).1 r).1 = g at *
            generalize (Rt.act s).1 = x at *
            have hbl : Below w2.heap.size w2 (w2.alloc (.cells #[.int .i64 0, .int .i64 x.kind, .int .u64 x.block, .int .i64 x.cell, .int .u64 x.old, .int .u64 x.new, .string x.text, .int .u64 g.word, .string g.text] 72)) := (Below.refl _ _).alloc (Nat.le_refl _) _
            have hM3 := Mid.stay Rt hM2 hbl
            have hC3 := hCl.out _ _ _ hCr.out (hc2.alloc (.cells #[.int .i64 0, .int .i64 x.kind, .int .u64 x.block, .int .i64 x.cell, .int .u64 x.old, .int .u64 x.new, .string x.text, .int .u64 g.word, .string g.text] 72))
            have hB3 := book_chg hBr.out (hc2.alloc (.cells #[.int .i64 0, .int .i64 x.kind, .int .u64 x.block, .int .i64 x.cell, .int .u64 x.old, .int .u64 x.new, .string x.text, .int .u64 g.word, .string g.text] 72)) hzl hzD
            obtain ⟨fn, tmps, assign, body, hy, hRd⟩ := hY.out pre (x, g) _ hM3 hC3 hB3
            dsimp only [encS, stepV] at hy
            have hs2 := hc2.size
            rw [show stepV 0 x g = .agg #[.int .i64 0, .int .i64 x.kind, .int .u64 x.block, .int .i64 x.cell, .int .u64 x.old, .int .u64 x.new, .string x.text, .int .u64 g.word, .string g.text] from rfl]
            replace hM2 := Lib.hid hM2
            replace hc2 := Lib.hid hc2
            replace hM3 := Lib.hid hM3
            replace hC3 := Lib.hid hC3
            replace hB3 := Lib.hid hB3
            replace hw := Lib.hid hw
            replace hrun2 := Lib.hid hrun2
            replace hN := Lib.hid hN
            clear hN
            gi_wp2
            refine ⟨rfl, hRd.mono ?_⟩
            rintro e W3 ⟨rfl, ⟨hM4, hC4⟩, hB4⟩
            replace hM4 := Lib.hid hM4
            replace hC4 := Lib.hid hC4
            replace hB4 := Lib.hid hB4
            gi_wp2
            go_roundw
            case rel => exact ⟨pre ++ [(x, g)], by have := (Array.getElem?_eq_some_iff.1 hB4.out.1).1; omega, by simp, .inl (by simp; omega), hM4.out, hC4.out, hB4.out⟩
            case measure => simp [intOf]; omega
          · have hcan : Rt.can S s = false := by unfold Rout.can; rw [hact]; simpa using hrd
            have hN := next_wait Rt hH.out hR.out hoff.out hfS hact (by simpa using hrd)
            replace hN := Lib.hid hN
            replace hcan := Lib.hid hcan
            clear hact hrd
            gi_wp2
            refine ⟨trivial, rfl, (callsIn_wide.2 hN.out).mono ?_⟩
            rintro e w2 ⟨rfl, hw⟩
            rw [zeroStep]
            obtain ⟨hM2, hc2⟩ := mid_went Rt hZ hBr0 hFG.out hzm hzh hzr hrun.out hw b1.out b2.out b3.out hle.out
            replace hM2 := Lib.hid hM2
            replace hc2 := Lib.hid hc2
            gi_wp2
            refine ⟨fun _ h => (by cases h), ?_⟩
            gi_wp2
            refine bodyPost_ret (results_none rfl _ _ _) rfl ?_
            obtain ⟨F', G', k1, k2, k3, k4⟩ := hw.ex
            have hbl : ∀ o, Below w2.heap.size w2 (w2.alloc o) := fun o => (Below.refl _ _).alloc (Nat.le_refl _) _
            refine finS.out pre S s F' G' _ hrun.out (k1.below (hbl _)) (Rt.below k2 (hbl _)) k3 ?_ (.inr hcan.out) hle.out (hCl.out _ _ _ hCr.out (hc2.out.alloc _)) (book_chg hBr.out (hc2.out.alloc _) hzl hzD)
            intro k hk
            rcases k4 k hk with hk | hk
            · exact hFG.out k hk
            · exact hZ k (by omega)
        · have hact : (Rt.act s).2 = false := by simpa using hact
          have hcan : Rt.can S s = false := by unfold Rout.can; rw [hact]; rfl
          have hN := next_stop Rt hH.out hR.out hact
          replace hN := Lib.hid hN
          replace hcan := Lib.hid hcan
          clear hact
          gi_wp2
          refine ⟨trivial, rfl, (callsIn_wide.2 hN.out).mono ?_⟩
          rintro e w2 ⟨rfl, hb2⟩
          rw [zeroStep]
          replace hb2 := Lib.hid hb2
          gi_wp2
          refine ⟨fun _ h => (by cases h), ?_⟩
          gi_wp2
          refine bodyPost_ret (results_none rfl _ _ _) rfl ?_
          have hb3 := fun o => (nx hb2.out (Nat.le_refl _) ((Below.refl _ _).alloc (Nat.le_refl _) o) : Below wr.heap.size wr (w2.alloc o))
          exact finS.out pre S s F G _ hrun.out (hH.out.below (hb3 _)) (Rt.below hR.out (hb3 _)) hoff.out hFG.out (.inr hcan.out) hle.out (hCl.out _ _ _ hCr.out (Chg.of_below (hb3 _) _)) (book_chg hBr.out (Chg.of_below (hb3 _) Z) hzl hzD)
      · gi_wp2
        go_end0
        exact finS.out pre S s F G _ hrun.out hH.out hR.out hoff.out hFG.out (.inl (by omega)) hle.out hCr.out hBr.out
end
end Go.Proofs.YtmlnhjfdhjachaaGreat

/-
  drive.Alone for any routine. No condition.
-/
namespace Go.Proofs.YtmlnhjfdhjachaaGreat
set_option linter.unusedVariables false
open Go.ChangeShapes Go.WideShapes Go.ChangeAt Go.RowKit Go.Shelf
open Go.ChangeMaps (setBlock)
attribute [local go_sem] Oper.semAt_some
theorem steps_mk (h r : Value) (m : Int) (w : World) (h1 : ∃ p, h = .pointer p) (h2 : ∃ t u, r = .iface t u) :
    Calls Tryz.prog 64 #[h, r, .int .i64 m] w fun e w' => e = .returned (.func (.func 93) #[] #[.pointer (some ⟨w.heap.size + 2, 0, none⟩), .pointer (some ⟨w.heap.size, 0, none⟩), .pointer (some ⟨w.heap.size + 1, 0, none⟩)]) ∧ ((w.alloc (.cells #[h] 54)).alloc (.cells #[r] 130)).alloc (.cells #[.int .i64 m] 3) = w' := by
  obtain ⟨p, rfl⟩ := h1
  obtain ⟨t, u, rfl⟩ := h2
  go_enter Tryz.func64, Tryz.ntmps64
  go_wp2
  go_ret
  exact ⟨rfl, rfl⟩
section
variable {σ : Type} (Rt : Rout σ)
theorem Mid.off {Z : Nat → Prop} {hb b bm bh br : Nat} {most : Int} {S0 : PHeap} {s0 : σ} {xs : List (PAct × PGot)} {W W' : World} {l : Nat} (h : Mid Rt Z hb b bm bh br most S0 s0 xs W) (hs : W.heap.size ≤ W'.heap.size) (hk : ∀ k, k ≠ l → k < W.heap.size → W'.heap[k]? = W.heap[k]?) (hl : ¬ Z l) (h1 : bm ≠ l) (h2 : bh ≠ l) (h3 : br ≠ l) : Mid Rt Z hb b bm bh br most S0 s0 xs W' := by
  obtain ⟨⟨S, s, F, G, k1, k2, k3, k4, k5⟩, k6, k7, k8, k9⟩ := h
  exact ⟨⟨S, s, F, G, k1, k2.keep hs fun j hj => hk j (fun e => hl (e ▸ k5 j (.inl hj))) (k2.own j hj), Rt.keep k3 hs fun j hj => hk j (fun e => hl (e ▸ k5 j (.inr hj))) (Rt.own k3 j hj), k4, k5⟩, k6.keep (hk _ h1 k6.lt), k7.keep (hk _ h2 k7.lt), k8.keep (hk _ h3 k8.lt), k9⟩
theorem Fin.off {Z : Nat → Prop} {hb b : Nat} {most : Int} {S0 : PHeap} {s0 : σ} {xs : List (PAct × PGot)} {W W' : World} {l : Nat} (h : Fin Rt Z hb b most S0 s0 xs W) (hs : W.heap.size ≤ W'.heap.size) (hk : ∀ k, k ≠ l → k < W.heap.size → W'.heap[k]? = W.heap[k]?) (hl : ¬ Z l) : Fin Rt Z hb b most S0 s0 xs W' := by
  obtain ⟨⟨S, s, F, G, k1, k2, k3, k4, k5, k6⟩⟩ := h
  exact ⟨⟨S, s, F, G, k1, k2.keep hs fun j hj => hk j (fun e => hl (e ▸ k5 j (.inl hj))) (k2.own j hj), Rt.keep k3 hs fun j hj => hk j (fun e => hl (e ▸ k5 j (.inr hj))) (Rt.own k3 j hj), k4, k5, k6⟩⟩
theorem put_same (W : World) (l : Nat) (o : Obj) : ∀ k, k ≠ l → k < W.heap.size → (W.putObj l o).heap[k]? = W.heap[k]? := fun k hk _ => World.putObj_heap_other (by omega)
/-- What Alone keeps of its own: how many steps were done; and what has turned so far. -/
structure Cnt (F G : Nat → Prop) (w : World) (nb : Nat) (pre : List (PAct × PGot)) (W : World) : Prop where
  n : Blk W nb 3 #[.int .i64 (pre.length : Nat)]
  chg : Chg (fun k => F k ∨ G k) w W
theorem Cnt.put {F G : Nat → Prop} {w W : World} {nb l : Nat} {pre : List (PAct × PGot)} (h : Cnt F G w nb pre W) (o : Obj) (h1 : nb ≠ l) (h2 : w.heap.size ≤ l) : Cnt F G w nb pre (W.putObj l o) :=
  ⟨h.n.keep (put_same W l o nb h1 h.n.lt), h.chg.os, h.chg.tape, h.chg.output, by simpa [World.putObj] using h.chg.size, fun k hk hn => (put_same W l o k (by omega) (Nat.lt_of_lt_of_le hk h.chg.size)).trans (h.chg.block k hk hn)⟩
/-- What going alone leaves. -/
def AlonePost (F G : Nat → Prop) (hb b : Nat) (most : Int) (S : PHeap) (s : σ) (w : World) (e : Ending) (w' : World) : Prop :=
  ∃ xs S' s', Runs Rt S s xs S' s' ∧ (most ≤ (xs.length : Nat) ∨ Rt.can S' s' = false) ∧ (((xs.length : Nat) : Int) ≤ most ∨ xs = []) ∧
    e = .returned (.tuple #[.int .i64 (xs.length : Nat), .bool (!(Rt.act s').2)]) ∧ Went Rt F G hb b S' s' w w'
set_option maxHeartbeats 1000000 in
theorem alone_any {w : World} {hb : Nat} {S : PHeap} {F G : Nat → Prop} {b : Nat} {s : σ} (h : HeapIn w hb S F) (hR : Rt.R w G b s) (off : Off F G) (hf : S.faults ≤ 1000000000) (hla : S.last ≤ 1000000000) (most : Int) (hm : most ≤ 1000000) :
    Calls Tryz.prog 20 #[.pointer (some ⟨hb, 0, none⟩), .iface Rt.T (.pointer (some ⟨b, 0, none⟩)), .int .i64 most] w (AlonePost Rt F G hb b most S s w) := by
  replace h := Lib.hid h
  replace hR := Lib.hid hR
  replace off := Lib.hid off
  refine (callsIn_wide (n := 0)).1 ?_
  refine callsIn_of_wp_marks Tryz.func20 rfl trivial ?_ rfl
  simp only [Tryz.ntmps20, List.size_toArray, List.length_cons, List.length_nil, Nat.reduceAdd, Nat.reduceSub, Array.replicate_succ, Array.replicate_zero, List.push_toArray, List.append_toArray, List.nil_append, List.cons_append]
  gi_wp2
  refine ⟨trivial, rfl, (callsIn_wide.2 (steps_mk _ _ most _ ⟨_, rfl⟩ ⟨_, _, rfl⟩)).mono ?_⟩
  rintro e w' ⟨rfl, rfl⟩
  gi_wp2
  have hB0 : Below w.heap.size w ((((w.alloc (.cells #[.int .i64 0] 3)).alloc (.cells #[.pointer (some ⟨hb, 0, none⟩)] 54)).alloc (.cells #[.iface Rt.T (.pointer (some ⟨b, 0, none⟩))] 130)).alloc (.cells #[.int .i64 most] 3)) := ((((Below.refl _ _).alloc (Nat.le_refl _) _).alloc (by simp) _).alloc (by simp; omega) _).alloc (by simp; omega) _
  have bn := (((Blk.new w 3 #[.int .i64 0]).alloc (.cells #[.pointer (some ⟨hb, 0, none⟩)] 54)).alloc (.cells #[.iface Rt.T (.pointer (some ⟨b, 0, none⟩))] 130)).alloc (.cells #[.int .i64 most] 3)
  have bh := ((Blk.new (w.alloc (.cells #[.int .i64 0] 3)) 54 #[.pointer (some ⟨hb, 0, none⟩)]).alloc (.cells #[.iface Rt.T (.pointer (some ⟨b, 0, none⟩))] 130)).alloc (.cells #[.int .i64 most] 3)
  have br := (Blk.new ((w.alloc (.cells #[.int .i64 0] 3)).alloc (.cells #[.pointer (some ⟨hb, 0, none⟩)] 54)) 130 #[.iface Rt.T (.pointer (some ⟨b, 0, none⟩))]).alloc (.cells #[.int .i64 most] 3)
  have bm := Blk.new (((w.alloc (.cells #[.int .i64 0] 3)).alloc (.cells #[.pointer (some ⟨hb, 0, none⟩)] 54)).alloc (.cells #[.iface Rt.T (.pointer (some ⟨b, 0, none⟩))] 130)) 3 #[.int .i64 most]
  simp only [World.size_alloc, Nat.add_assoc, Nat.reduceAdd] at bh br bm
  have hsz : ((((w.alloc (.cells #[.int .i64 0] 3)).alloc (.cells #[.pointer (some ⟨hb, 0, none⟩)] 54)).alloc (.cells #[.iface Rt.T (.pointer (some ⟨b, 0, none⟩))] 130)).alloc (.cells #[.int .i64 most] 3)).heap.size = w.heap.size + 4 := by simp
  generalize ((((w.alloc (.cells #[.int .i64 0] 3)).alloc (.cells #[.pointer (some ⟨hb, 0, none⟩)] 54)).alloc (.cells #[.iface Rt.T (.pointer (some ⟨b, 0, none⟩))] 130)).alloc (.cells #[.int .i64 most] 3)) = W0 at *
  have hFlt : ∀ j, F j → j < w.heap.size := h.out.own
  have hGlt : ∀ j, G j → j < w.heap.size := Rt.own hR.out
  have hZn : ∀ j, w.heap.size ≤ j → j < w.heap.size + 6 → ¬ (F j ∨ G j ∨ W0.heap.size + 2 ≤ j) := by
    rintro j h1 h2 (hj | hj | hj)
    · have := hFlt j hj; omega
    · have := hGlt j hj; omega
    · omega
  have hCl : ∀ (pre : List (PAct × PGot)) (W W' : World), Cnt F G w w.heap.size pre W → Chg (fun k => F k ∨ G k ∨ W0.heap.size + 2 ≤ k) W W' → Cnt F G w w.heap.size pre W' := by
    intro pre W W' hc hg
    refine ⟨hc.n.keep (hg.block _ hc.n.lt (hZn _ (Nat.le_refl _) (by omega))), hc.chg.trans hg ?_⟩
    rintro k (hk | hk | hk)
    · exact .inl (.inl hk)
    · exact .inl (.inr hk)
    · exact .inr (by omega)
  have start : ∀ o, Mid Rt (fun k => F k ∨ G k ∨ W0.heap.size + 2 ≤ k) hb b (w.heap.size + 3) (w.heap.size + 1) (w.heap.size + 2) most S s [] ((W0.alloc (.deferred (some []))).alloc o) ∧ Cnt F G w w.heap.size [] ((W0.alloc (.deferred (some []))).alloc o) := by
    intro o
    have hb2 : Below W0.heap.size W0 ((W0.alloc (.deferred (some []))).alloc o) := ((Below.refl _ _).alloc (Nat.le_refl _) _).alloc (by simp) _
    have hb3 : Below w.heap.size w ((W0.alloc (.deferred (some []))).alloc o) := nx hB0 (Nat.le_refl _) hb2
    exact ⟨⟨⟨S, s, F, G, ⟨rfl, rfl⟩, h.out.below hb3, Rt.below hR.out hb3, off.out, fun k hk => hk.elim .inl (fun h => .inr (.inl h))⟩, bm.below hb2 bm.lt, bh.below hb2 bh.lt, br.below hb2 br.lt, .inr rfl⟩, bn.below hb2 bn.lt, Chg.of_below hb3 _⟩
  have hns : Blk W0 w.heap.size 3 #[.int .i64 0] := bn
  refine rangeFunc_eff (gf := 93) (lb := #[.pointer (some ⟨w.heap.size + 1 + 2, 0, none⟩), .pointer (some ⟨w.heap.size + 1, 0, none⟩), .pointer (some ⟨w.heap.size + 1 + 1, 0, none⟩)]) rfl (enters_of Tryz.func93 (by kernel_rfl) rfl) (encs := encS) (fun _ => rfl)
    (fun pre W => Mid Rt (fun k => F k ∨ G k ∨ W0.heap.size + 2 ≤ k) hb b (w.heap.size + 3) (w.heap.size + 1) (w.heap.size + 2) most S s pre W ∧ Cnt F G w w.heap.size pre W)
    (fun pre x W => Mid Rt (fun k => F k ∨ G k ∨ W0.heap.size + 2 ≤ k) hb b (w.heap.size + 3) (w.heap.size + 1) (w.heap.size + 2) most S s (pre ++ [x]) W ∧ Cnt F G w w.heap.size pre W)
    (fun xs W => Fin Rt (fun k => F k ∨ G k ∨ W0.heap.size + 2 ≤ k) hb b most S s xs W ∧ Cnt F G w w.heap.size xs W)
    (start _) (fun _ o' _ => start o') ?hM ?hI ?hE ?hiter
    (fun x => { tmps := #[.pointer (some ⟨hb, 0, none⟩), .iface Rt.T (.pointer (some ⟨b, 0, none⟩)), .int .i64 most, undef, undef, undef, .int .i64 0, .bool false, .pointer (some ⟨w.heap.size, 0, none⟩), undef, undef, .iface Rt.T (.pointer (some ⟨b, 0, none⟩)), .bool false, .pointer (some ⟨hb, 0, none⟩), .iface Rt.T (.pointer (some ⟨b, 0, none⟩)), .int .i64 most, .func (.func 93) #[] #[.pointer (some ⟨w.heap.size + 1 + 2, 0, none⟩), .pointer (some ⟨w.heap.size + 1, 0, none⟩), .pointer (some ⟨w.heap.size + 1 + 1, 0, none⟩)], stepV 0 x.1 x.2, undef, undef, undef, undef, undef, undef, undef, undef, undef, undef], defers := [] })
    ?hassign ?hbody ?hdone
  case hM =>
    rintro pre x W o ⟨h1, h2⟩
    exact ⟨Mid.off Rt h1 (by simp [World.putObj]) (put_same W _ o) (hZn _ (by omega) (by omega)) (by omega) (by omega) (by omega), h2.put o (by omega) (by omega)⟩
  case hI =>
    rintro pre W o ⟨h1, h2⟩
    exact ⟨Mid.off Rt h1 (by simp [World.putObj]) (put_same W _ o) (hZn _ (by omega) (by omega)) (by omega) (by omega) (by omega), h2.put o (by omega) (by omega)⟩
  case hE =>
    rintro pre W o ⟨h1, h2⟩
    exact ⟨Fin.off Rt h1 (by simp [World.putObj]) (put_same W _ o) (hZn _ (by omega) (by omega)), h2.put o (by omega) (by omega)⟩
  case hiter =>
    intro rec W hI hB hY
    exact steps_iter Rt (fun k => F k ∨ G k ∨ W0.heap.size + 2 ≤ k) (W0.heap.size + 2) (fun k hk => .inr (.inr hk)) hb b (w.heap.size + 3) (w.heap.size + 1) (w.heap.size + 2) most hm S hf hla s (Cnt F G w w.heap.size) hCl _ _ (hZn _ (by omega) (by omega)) (hZn _ (by omega) (by omega)) (hZn _ (by omega) (by omega)) (hZn _ (by omega) (by omega)) (hZn _ (by omega) (by omega)) rec (fun pre x W1 h1 h2 h3 => hY pre x W1 ⟨h1, h2⟩ h3) W hI.1 hI.2 hB (by omega)
  case hassign =>
    intro l x W K hK
    rw [show (#[17] : Array Tmp).zip (encS x) = #[(17, stepV 0 x.1 x.2)] from by apply Array.ext'; simp [encS]]
    gi_wp2
    exact hK
  case hbody =>
    rintro pre x W rec ⟨h1, h2⟩ hB
    have c0 := h2.n.cell 0
    have f0 := h2.n.frozen 0
    have hlen : (pre.length : Int) + 1 ≤ 1000000 := by
      rcases h1.len with h | h
      · simp at h; omega
      · simp at h
    have hpost : ∀ W', W.setCell ⟨w.heap.size, 0, none⟩ (.int .i64 ((pre.length : Int) + 1)) = W' → (Mid Rt (fun k => F k ∨ G k ∨ W0.heap.size + 2 ≤ k) hb b (w.heap.size + 3) (w.heap.size + 1) (w.heap.size + 2) most S s (pre ++ [x]) W' ∧ Cnt F G w w.heap.size (pre ++ [x]) W') ∧ Book (W0.heap.size + 1) W0.heap.size rec W' := by
      rintro W' rfl
      have hk : ∀ k, k ≠ w.heap.size → k < W.heap.size → (W.setCell ⟨w.heap.size, 0, none⟩ (.int .i64 ((pre.length : Int) + 1))).heap[k]? = W.heap[k]? := fun k hk _ => Below.heap_setCell _ _ _ _ (fun e => hk e)
      refine ⟨⟨Mid.off Rt h1 (by simp [World.setCell]) hk (hZn _ (Nat.le_refl _) (by omega)) (by omega) (by omega) (by omega), Blk.eq_cs (h2.n.set_ 0 _) (by simp), h2.chg.setCell (.inr (Nat.le_refl _)) _⟩, (hk _ (by omega) (Array.getElem?_eq_some_iff.1 hB.1).1).trans hB.1, (hk _ (by omega) (Array.getElem?_eq_some_iff.1 hB.2).1).trans hB.2⟩
    replace hpost := Lib.hid hpost
    replace h1 := Lib.hid h1
    replace h2 := Lib.hid h2
    replace hB := Lib.hid hB
    replace hsz := Lib.hid hsz
    clear hCl start hZn
    gi_wp2
    exact hpost.out _ rfl
  case hdone =>
    rintro xs W ⟨h1, h2⟩ hD
    have hZD := hZn W0.heap.size (by omega) (by omega)
    have hZD := Lib.hid hZD
    obtain ⟨⟨S', s', F', G', k1, k2, k3, k4, k5, k6, k7⟩⟩ := h1
    have c0 := h2.n.cell 0
    have hA := Rt.cAct k3
    have mA := Rt.mAct
    have nA := Rt.nAct
    have eA := Rt.eAct
    rcases hx : (Rt.act s').1 with ⟨k, bb, c, o, n, t⟩
    rw [hx, show PAct.val ⟨k, bb, c, o, n, t⟩ = .agg #[.int .i64 k, .int .u64 bb, .int .i64 c, .int .u64 o, .int .u64 n, .string t] from rfl] at hA
    clear hx
    replace hA := Lib.hid hA
    replace h2 := Lib.hid h2
    replace k1 := Lib.hid k1
    replace k2 := Lib.hid k2
    replace k3 := Lib.hid k3
    replace k4 := Lib.hid k4
    replace k5 := Lib.hid k5
    replace k6 := Lib.hid k6
    replace k7 := Lib.hid k7
    replace hD := Lib.hid hD
    replace hFlt := Lib.hid hFlt
    replace hGlt := Lib.hid hGlt
    replace hsz := Lib.hid hsz
    clear hCl start hZn
    gi_wp2
    refine ⟨trivial, rfl, (callsIn_wide.2 hA.out).mono ?_⟩
    rintro e w2 ⟨rfl, hb2⟩
    have c2 := fun o => ((h2.out.n.below hb2 h2.out.n.lt).alloc o).cell 0
    have hs2 := hb2.size
    have hnl := h2.out.n.lt
    clear c0
    replace hb2 := Lib.hid hb2
    gi_wp2
    have hDlt : W0.heap.size < W.heap.size := (Array.getElem?_eq_some_iff.1 hD.out).1
    have hb3 : Below W.heap.size W (w2.alloc (.cells #[.int .i64 k, .int .u64 bb, .int .i64 c, .int .u64 o, .int .u64 n, .string t] 31)) := nx hb2.out (Nat.le_refl _) ((Below.refl _ _).alloc (Nat.le_refl _) _)
    refine ⟨by simp, .inl ⟨_, _, rfl, run_takeDeferred ((hb3.block _ hDlt).trans hD.out), ?_⟩⟩
    refine ⟨.tuple #[.int .i64 (xs.length : Nat), .bool (!(Rt.act s').2)], by simp [results, Tryz.results20, go_sem], xs, S', s', k1.out, k6.out, k7.out, rfl, ?_⟩
    have hput : ∀ (o' : Obj) j, j ≠ W0.heap.size → j < W.heap.size → ((w2.alloc (.cells #[.int .i64 k, .int .u64 bb, .int .i64 c, .int .u64 o, .int .u64 n, .string t] 31)).putObj W0.heap.size o').heap[j]? = W.heap[j]? := fun o' j h1 h2 => (World.putObj_heap_other (by omega)).trans (hb3.block j h2)
    have hne : ∀ j, F' j ∨ G' j → j ≠ W0.heap.size := fun j hj e => hZD.out (e ▸ k5.out j hj)
    have hsz3 := hb3.size
    refine ⟨⟨F', G', k2.out.keep (by simpa [World.putObj] using hsz3) fun j hj => hput _ j (hne j (.inl hj)) (k2.out.own j hj), Rt.keep k3.out (by simpa [World.putObj] using hsz3) fun j hj => hput _ j (hne j (.inr hj)) (Rt.own k3.out j hj), k4.out, fun j hj => ?_⟩, ?_⟩
    · rcases k5.out j hj with hj | hj | hj
      · exact .inl (.inl hj)
      · exact .inl (.inr hj)
      · exact .inr (by have := hsz.out; omega)
    · have hc := h2.out.chg.next_ hb3
      exact ⟨hc.os, hc.tape, hc.output, by simpa [World.putObj] using hc.size, fun j hj hn => (World.putObj_heap_other (by have := hsz.out; omega)).trans (hc.block j hj hn)⟩
end
end Go.Proofs.YtmlnhjfdhjachaaGreat
