/-
  Sets of names (layer 12): Add, Drop, Has, Of. No condition.
-/
import Derived.Test.YtpkkjoiglemlgaaGreatDoorIdS
import Derived.Test.YtpkkjoiglemlgaaGreatDoorLexH
import Derived.Deep.Cut
namespace Go.Proofs.YtpkkjoiglemlgaaGreatDoor
set_option linter.unusedVariables false
open Go.ChangeShapes Go.WideShapes Go.ChangeAt Go.RowKit Go.Extern.Stop Go.Stop Go.Extern
open Go.ChangeMaps (setBlock)

/-- Block b is a set that has just these names, each put in c times at most; all its memory lies in F. -/
structure SetIs (w : World) (b : Nat) (F : Nat → Prop) (c : Int) (ids : List (Int × Int)) : Prop where
  own : In F w
  hb : F b
  is : (Blk w b 113 #[.map none] ∧ ids = []) ∨ ∃ m l, F m ∧ m ≠ b ∧ Blk w b 113 #[.map (some m)] ∧ MapKs w m l ∧ l.map (·.1) = ids ∧ Cnt c l
theorem SetIs.keep {w w' : World} {b : Nat} {F : Nat → Prop} {c : Int} {ids : List (Int × Int)} (h : SetIs w b F c ids) (hs : w.heap.size ≤ w'.heap.size) (hk : ∀ k, F k → w'.heap[k]? = w.heap[k]?) : SetIs w' b F c ids :=
  ⟨h.own.mono hs, h.hb, h.is.imp (fun ⟨h1, h2⟩ => ⟨h1.keep (hk _ h.hb), h2⟩) fun ⟨m, l, h1, h2, h3, h4, h5⟩ => ⟨m, l, h1, h2, h3.keep (hk _ h.hb), h4.keep (hk _ h1), h5⟩⟩
theorem SetIs.below {w w' : World} {b : Nat} {F : Nat → Prop} {c : Int} {ids : List (Int × Int)} (h : SetIs w b F c ids) (hb : Below w.heap.size w w') : SetIs w' b F c ids := h.keep hb.size fun k hk => hb.block k (h.own k hk)
theorem SetIs.more {w : World} {b : Nat} {F : Nat → Prop} {c d : Int} {ids : List (Int × Int)} (h : SetIs w b F c ids) (hd : c ≤ d) : SetIs w b F d ids :=
  ⟨h.own, h.hb, h.is.imp id fun ⟨m, l, h1, h2, h3, h4, h5, h6⟩ => ⟨m, l, h1, h2, h3, h4, h5, fun p hp => by
    obtain ⟨a, n, e, k1, k2⟩ := h6 p hp
    exact ⟨a, n, e, k1, by omega⟩⟩⟩
theorem SetIs.ok {w : World} {b : Nat} {F : Nat → Prop} {c : Int} {ids : List (Int × Int)} (h : SetIs w b F c ids) : ∀ k ∈ ids, idOk k := by
  rcases h.is with ⟨_, rfl⟩ | ⟨m, l, _, _, _, _, rfl, h6⟩
  · intro k hk; cases hk
  · intro k hk
    obtain ⟨p, hp, rfl⟩ := List.mem_map.1 hk
    exact (h6 p hp).1
/-- The call has turned the set so, and nothing else that was there. -/
def SetTo (F : Nat → Prop) (b : Nat) (c : Int) (ids : List (Int × Int)) (w w' : World) : Prop := SetIs w' b (nw F w w') c ids ∧ Chg F w w'
def addIds (ids : List (Int × Int)) (k : Int × Int) : List (Int × Int) := if k ∈ ids then ids else ids ++ [k]
theorem putK_ids {l : List ((Int × Int) × Value)} {k : Int × Int} {v : Value} : (putK l k v).map (·.1) = addIds (l.map (·.1)) k := by
  unfold putK addIds
  by_cases h : k ∈ l.map (·.1)
  · rw [if_pos (List.contains_iff_mem.2 h), if_pos h, List.map_map]
    apply List.map_congr_left
    intro p hp
    simp only [Function.comp_def]
    split
    · rename_i e; exact e.symm
    · rfl
  · rw [if_neg (fun hc => h (List.contains_iff_mem.1 hc)), if_neg h]
    simp
theorem putK_cnt {c : Int} {l : List ((Int × Int) × Value)} (h : Cnt c l) {k : Int × Int} (hk : idOk k) (hc : 0 ≤ c) : Cnt (c + 1) (putK l k (.int .i64 (cntK l k + 1))) := by
  obtain ⟨_, h2, h3, _⟩ := cntK_look h k
  unfold putK
  split
  · intro p hp
    obtain ⟨q, hq, rfl⟩ := List.mem_map.1 hp
    split
    · exact ⟨hk, _, rfl, by omega, by omega⟩
    · obtain ⟨a, n, e, k1, k2⟩ := h q hq
      exact ⟨a, n, e, k1, by omega⟩
  · intro p hp
    rcases List.mem_append.1 hp with hp | hp
    · obtain ⟨a, n, e, k1, k2⟩ := h p hp
      exact ⟨a, n, e, k1, by omega⟩
    · obtain rfl := List.mem_singleton.1 hp
      exact ⟨hk, _, rfl, by omega, by omega⟩
theorem bagPut_any {w : World} {b : Nat} {F : Nat → Prop} {c : Int} {ids : List (Int × Int)} (h : SetIs w b F c ids) (hc0 : 0 ≤ c) (hc1 : c < 9223372036854775807) (x y : Int) (hk : idOk (x, y)) :
    Calls Tryz.prog 66 #[.pointer (some ⟨b, 0, none⟩), .agg #[.int .i64 x, .int .i64 y]] w fun e w' => e = .returned (.bool (!decide ((x, y) ∈ ids))) ∧ SetTo F b (c + 1) (addIds ids (x, y)) w w' := by
  rcases h.is with ⟨h1, rfl⟩ | ⟨m, l, h1, h2, h3, h4, rfl, h6⟩
  · refine (bagPut_new h1 x y hk).mono ?_
    rintro e w' ⟨rfl, m, hm1, hm2, hB, hM, hch⟩
    have hch' : Chg F w w' := hch.mono fun i hi => hi ▸ h.hb
    refine ⟨by simp, ⟨h.own.nw hch.size, .inl h.hb, .inr ⟨m, _, .inr ⟨hm1, hm2⟩, fun e => by have := h.own b h.hb; omega, hB, hM, by simp [addIds], fun p hp => ?_⟩⟩, hch'⟩
    obtain rfl := List.mem_singleton.1 hp
    exact ⟨hk, 1, rfl, by omega, by omega⟩
  · refine (bagPut_old h3 h4 h2 h6 hc1 x y hk).mono ?_
    rintro e w' ⟨rfl, hB, hM, hch⟩
    have hch' : Chg F w w' := hch.mono fun i hi => hi ▸ h1
    obtain ⟨_, k2, k3, k4⟩ := cntK_look h6 (x, y)
    refine ⟨?_, ⟨h.own.nw hch.size, .inl h.hb, .inr ⟨m, _, .inl h1, h2, hB, hM, putK_ids, putK_cnt h6 hk hc0⟩⟩, hch'⟩
    congr 2
    by_cases hm : (x, y) ∈ l.map (·.1)
    · rw [decide_eq_true hm]
      exact beq_eq_false_iff_ne.2 fun e => (k4.1 e) hm
    · rw [decide_eq_false hm]
      exact beq_iff_eq.2 (k4.2 hm)
theorem SetTo.after {F : Nat → Prop} {b : Nat} {c : Int} {ids : List (Int × Int)} {w w1 w2 : World} (hF : In F w) (hb : Below w.heap.size w w1) (t : SetTo F b c ids w1 w2) : SetTo F b c ids w w2 := by
  have h1 := hb.size
  have h2 := t.2.size
  have hi : ∀ k, nw F w1 w2 k → nw F w w2 k := fun k hk => hk.imp id fun hk => ⟨by omega, hk.2⟩
  exact ⟨⟨hF.nw (by omega), hi _ t.1.hb, t.1.is.imp id fun ⟨m, l, k1, k2⟩ => ⟨m, l, hi _ k1, k2⟩⟩, (Chg.of_below hb F).trans t.2 fun _ h => .inl h⟩
set_option maxHeartbeats 1000000 in
set_option maxRecDepth 100000 in
theorem setAdd_any {w : World} {b : Nat} {F : Nat → Prop} {c : Int} {ids : List (Int × Int)} (h : SetIs w b F c ids) (hc0 : 0 ≤ c) (hc1 : c < 9223372036854775807) (x y : Int) (hk : idOk (x, y)) :
    Calls Tryz.prog 37 #[.pointer (some ⟨b, 0, none⟩), .agg #[.int .i64 x, .int .i64 y]] w fun e w' => e = .returned (.bool (!decide ((x, y) ∈ ids))) ∧ SetTo F b (c + 1) (addIds ids (x, y)) w w' := by
  have hW1 : Below w.heap.size w (w.alloc (.cells #[.int .i64 x, .int .i64 y] 23)).drew := ((Below.refl _ _).alloc (Nat.le_refl _) _).drew
  have B1 := Blk.new w 23 #[.int .i64 x, .int .i64 y]
  have hp := bagPut_any (h.below hW1) hc0 hc1 x y hk
  have x0 := B1.cell 0
  have x1 := B1.cell 1
  replace hp := Lib.hid hp
  replace h := Lib.hid h
  replace hW1 := Lib.hid hW1
  clear B1
  go_enter Tryz.func37, Tryz.ntmps37
  go_upto_region 1 with fail
  refine wp_region_lex [(true, 0), (true, 1), (true, 2), (true, 3), (true, 4), (true, 5), (true, 6), (false, 7), (true, 8), (true, 9)] (fun W : World => W.cell? ⟨w.heap.size, 0, none⟩ = some (.int .i64 x) ∧ W.cell? ⟨w.heap.size, 1, none⟩ = some (.int .i64 y)) (by kernel_rfl) (by kernel_rfl) (fun R hR => ?_)
  have hHeld : (fun W : World => W.cell? ⟨w.heap.size, 0, none⟩ = some (.int .i64 x) ∧ W.cell? ⟨w.heap.size, 1, none⟩ = some (.int .i64 y)) (w.alloc (.cells #[.int .i64 x, .int .i64 y] 23)).drew := ⟨x0, x1⟩
  clear x0 x1
  repeat (refine lex_take (v := ?_) rfl (by rfl) (by assumption) ?_ ?_; rotate_left 1; (focus (intro w hSw; (try dsimp only at hSw); go_simp; (try with_reducible rfl))); (try simp only [Act.put, List.setIfInBounds_toArray, List.set_cons_zero, List.set_cons_succ]))
  (refine lex_call rfl (by rfl) (fun K hq => ?_); go_simp)
  go_at_call 66
  refine (hp.out).mono ?_; rintro e w1 ⟨rfl, ht⟩
  have B1 := (Blk.new w 23 #[.int .i64 x, .int .i64 y]).drew
  have hnF : ¬ F w.heap.size := fun hf => Nat.lt_irrefl _ (h.out.own _ hf)
  have B2 := B1.keep (ht.2.block _ B1.lt hnF)
  clear hHeld
  have hHeld : (fun W : World => W.cell? ⟨w.heap.size, 0, none⟩ = some (.int .i64 x) ∧ W.cell? ⟨w.heap.size, 1, none⟩ = some (.int .i64 y)) w1 := ⟨B2.cell 0, B2.cell 1⟩
  have ht2 := SetTo.after h.out.own hW1.out ht
  clear ht B1 B2
  replace ht2 := Lib.hid ht2
  go_wp2_with fail
  (refine hq.out _ _ (fun W : World => W.cell? ⟨w.heap.size, 0, none⟩ = some (.int .i64 x) ∧ W.cell? ⟨w.heap.size, 1, none⟩ = some (.int .i64 y)) (fun _ h => h) hHeld ?_; clear hq K; (try simp only [Act.put, List.setIfInBounds_toArray, List.set_cons_zero, List.set_cons_succ]))
  repeat (refine lex_take (v := ?_) rfl (by rfl) (by assumption) ?_ ?_; rotate_left 1; (focus (intro w hSw; (try dsimp only at hSw); go_simp; (try with_reducible rfl))); (try simp only [Act.put, List.setIfInBounds_toArray, List.set_cons_zero, List.set_cons_succ]))
  refine lex_end ?_
  refine hR.out _ _ ?_
  clear hR R
  go_wp2_with fail
  go_ret
  exact ⟨rfl, ht2.out⟩
theorem SetIs.map {w : World} {b : Nat} {F : Nat → Prop} {c : Int} {ids : List (Int × Int)} (h : SetIs w b F c ids) {x y : Int} (hk : idOk (x, y)) : ∃ mm n, Blk w b 113 #[.map mm] ∧ (0 ≤ n) ∧ ((n > 0) ↔ (x, y) ∈ ids) ∧ ∀ W : World, w.heap.size ≤ W.heap.size → (∀ k, F k → W.heap[k]? = w.heap[k]?) → (Instr.lookup 109 (.map mm) (.agg #[.int .i64 x, .int .i64 y]) false).run Tryz.prog W = .ok (.int .i64 n) W := by
  rcases h.is with ⟨h1, rfl⟩ | ⟨m, l, h1, h2, h3, h4, rfl, h6⟩
  · refine ⟨none, 0, h1, Int.le_refl _, by simp, fun W _ _ => ?_⟩
    have := run_lookK_nil 109 3 Tryz.underlying109 (.int .i64 0) (fun w => by go_simp) W hk
    exact this
  · obtain ⟨e1, k2, k3, k4⟩ := cntK_look h6 (x, y)
    refine ⟨some m, cntK l (x, y), h3, k2, ⟨fun h => ?_, fun h => ?_⟩, fun W _ hW => ?_⟩
    · exact Classical.byContradiction fun hc => by have := k4.2 hc; omega
    · have : cntK l (x, y) ≠ 0 := fun e => (k4.1 e) h
      omega
    · have := run_lookK 109 3 Tryz.underlying109 (.int .i64 0) (fun w => by go_simp) (h4.keep (hW m h1)) (fun p hp => (h6 p hp).1) hk false
      rw [e1] at this
      exact this
set_option maxHeartbeats 1000000 in
set_option maxRecDepth 100000 in
theorem setHas_any {w : World} {b : Nat} {F : Nat → Prop} {c : Int} {ids : List (Int × Int)} (h : SetIs w b F c ids) (x y : Int) (hk : idOk (x, y)) :
    Calls Tryz.prog 36 #[.pointer (some ⟨b, 0, none⟩), .agg #[.int .i64 x, .int .i64 y]] w fun e w' => e = .returned (.bool (decide ((x, y) ∈ ids))) ∧ Below w.heap.size w w' := by
  obtain ⟨mm, n, hB, h0, hn, hL⟩ := h.map hk
  have hW1 : Below w.heap.size w (w.alloc (.cells #[.int .i64 x, .int .i64 y] 23)).drew := ((Below.refl _ _).alloc (Nat.le_refl _) _).drew
  have B1 := Blk.new w 23 #[.int .i64 x, .int .i64 y]
  have x0 := B1.cell 0
  have x1 := B1.cell 1
  have b0 := (hB.below hW1 hB.lt).cell 0
  have hL1 := hL (w.alloc (.cells #[.int .i64 x, .int .i64 y] 23)).drew hW1.size (fun k hk => hW1.block k (h.own k hk))
  have hres : decide (n > 0) = decide ((x, y) ∈ ids) := by simp only [hn]
  generalize decide ((x, y) ∈ ids) = r at *
  replace hW1 := Lib.hid hW1
  replace hres := Lib.hid hres
  replace hL := Lib.hid hL
  replace h := Lib.hid h
  clear B1 hn
  go_enter Tryz.func36, Tryz.ntmps36
  go_upto_region 1 with fail
  refine wp_region_lex [(true, 0), (true, 1), (true, 2), (true, 3), (true, 4), (true, 5), (true, 6), (true, 7), (true, 8), (true, 9), (true, 10), (true, 11), (true, 12)] (fun W : World => W.cell? ⟨w.heap.size, 0, none⟩ = some (.int .i64 x) ∧ W.cell? ⟨w.heap.size, 1, none⟩ = some (.int .i64 y) ∧ W.cell? ⟨b, 0, none⟩ = some (.map mm) ∧ (Instr.lookup 109 (.map mm) (.agg #[.int .i64 x, .int .i64 y]) false).run Tryz.prog W = .ok (.int .i64 n) W) (by kernel_rfl) (by kernel_rfl) (fun R hR => ?_)
  have hHeld : (fun W : World => W.cell? ⟨w.heap.size, 0, none⟩ = some (.int .i64 x) ∧ W.cell? ⟨w.heap.size, 1, none⟩ = some (.int .i64 y) ∧ W.cell? ⟨b, 0, none⟩ = some (.map mm) ∧ (Instr.lookup 109 (.map mm) (.agg #[.int .i64 x, .int .i64 y]) false).run Tryz.prog W = .ok (.int .i64 n) W) (w.alloc (.cells #[.int .i64 x, .int .i64 y] 23)).drew := ⟨x0, x1, b0, hL1⟩
  clear x0 x1 b0 hL1
  repeat (refine lex_take (v := ?_) rfl (by rfl) (by assumption) ?_ ?_; rotate_left 1; (focus (intro w hSw; (try dsimp only at hSw); go_simp; (try with_reducible rfl))); (try simp only [Act.put, List.setIfInBounds_toArray, List.set_cons_zero, List.set_cons_succ]))
  refine lex_end ?_
  refine hR.out _ _ ?_
  clear hR R
  go_wp2_with fail
  go_ret
  exact ⟨by rw [← hres.out]; rfl, hW1.out⟩
end Go.Proofs.YtpkkjoiglemlgaaGreatDoor
