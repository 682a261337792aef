/-
  The walk over the law of heaps that live (layer 17). No condition.
-/
import Derived.Test.YtjoaifdjmdihoaaRefQ
import Derived.Test.YtjoaifdjmdihoaaLexH
namespace Go.Proofs.Ytjoaifdjmdihoaa
set_option linter.unusedVariables false
open Go.ChangeShapes Go.WideShapes Go.ChangeAt Go.RowKit
open Go.ChangeMaps (setBlock)

theorem op6_at {w : World} {B n : Nat} {A : Option Addr} {l : List PAct} (h : Reads w B 6 A n (opL l)) (hn : l.length = n) {k : Nat} (hk : k < n) :
    ∃ ad x, A = some ad ∧ ad.block < B ∧ l[k]? = some x ∧ ∀ W, Below B w W → (W.cell? (ad.add (k * 6)) = some (.int .i64 x.kind) ∧ W.cell? ⟨(ad.add (k * 6)).block, (ad.add (k * 6)).off + 1, none⟩ = some (.int .u64 x.block) ∧ W.cell? ⟨(ad.add (k * 6)).block, (ad.add (k * 6)).off + 2, none⟩ = some (.int .i64 x.cell) ∧
      W.cell? ⟨(ad.add (k * 6)).block, (ad.add (k * 6)).off + 3, none⟩ = some (.int .u64 x.old) ∧ W.cell? ⟨(ad.add (k * 6)).block, (ad.add (k * 6)).off + 4, none⟩ = some (.int .u64 x.new) ∧ W.cell? ⟨(ad.add (k * 6)).block, (ad.add (k * 6)).off + 5, none⟩ = some (.string x.text)) := by
  obtain ⟨ad, x, e, hb, hx, hc⟩ := Reads.fld (mk := fun x : PAct => [.int .i64 x.kind, .int .u64 x.block, .int .i64 x.cell, .int .u64 x.old, .int .u64 x.new, .string x.text]) (fun _ => rfl) h hk hn
  refine ⟨ad, x, e, hb, hx, fun W hW => ?_⟩
  have g0 : W.cell? (ad.add (k * 6)) = some (.int .i64 x.kind) := by
    have := hc 0 (.int .i64 x.kind) rfl
    rw [Nat.add_zero] at this
    exact keepc hW hb this
  have g : ∀ j v, [.int .i64 x.kind, .int .u64 x.block, .int .i64 x.cell, .int .u64 x.old, .int .u64 x.new, .string x.text][j]? = some v → 0 < j → W.cell? ⟨(ad.add (k * 6)).block, (ad.add (k * 6)).off + j, none⟩ = some v := by
    intro j v hv hj
    have e1 : (⟨(ad.add (k * 6)).block, (ad.add (k * 6)).off + j, none⟩ : Addr) = (ad.add (k * 6)).add j := by
      cases j with
      | zero => omega
      | succ j => rfl
    rw [e1, add_of_add]
    exact keepc hW hb (hc j v hv)
  exact ⟨g0, g 1 _ rfl (by omega), g 2 _ rfl (by omega), g 3 _ rfl (by omega), g 4 _ rfl (by omega), g 5 _ rfl (by omega)⟩
/-- Between two rounds. -/
structure LivesRel (w : World) (hb xb ub yb len : Nat) (i : Value) (wr : World) : Prop where
  ex : ∃ (k : Nat) (S T : PHeap), k ≤ len ∧ i = .int .i64 k ∧ QE w hb xb ub yb S T wr ∧ KeyLike S T ∧ S.last ≤ k ∧ S.faults ≤ k ∧ T.faults ≤ k ∧ S.blocks.length ≤ k
theorem same_bool (q : Bool) : (q == q) = true := by simp
theorem same_int (q : Int) : (q == q) = true := by simp
set_option maxRecDepth 100000 in
set_option maxHeartbeats 4000000 in
theorem walkLives (A : Option Addr) (len cap : Nat) (l : List PAct) (hlen : l.length = len) (hok : ∀ x ∈ l, x.Ok) (hmax : len ≤ maxLen) (w : World) (hr : Reads w w.heap.size 6 A len (opL l)) :
    Calls Try.prog 4 #[.slice A len cap] w fun e w' => e = .returned (.bool true) ∧ Below w.heap.size w w' := by
  have hFe := few_any A len cap l hlen hmax 120 w hr
  replace hr := Lib.hid hr
  replace hFe := Lib.hid hFe
  go_enter Try.func4, Try.ntmps4
  go_wp2_with fail
  refine (hFe.out).mono ?_; rintro e w0 ⟨fb, rfl, hfb, rfl⟩
  clear hFe
  cases fb with
  | false =>
    replace hfb := Lib.hid hfb
    go_wp2_with fail
    refine (awake17 _).mono ?_; rintro e w7 ⟨rfl, hb7⟩
    go_wp2_with fail
    go_ret
    exact ⟨rfl, hb7⟩
  | true =>
    have hl120 : len ≤ 120 := by have := hfb rfl; omega
    clear hfb
    go_wp2_with fail
    refine (new_sess _).mono ?_; rintro e w1 ⟨hb, rfl, s1⟩
    have q1 := QE.start s1
    replace s1 := Lib.hid s1
    replace q1 := Lib.hid q1
    go_wp2_with fail
    generalize hxb : w1.heap.size + 1 = xb at *
    generalize hyb : xb + 1 = yb at *
    generalize hub : w1.heap.size = ub at *
    replace hxb := Lib.hid hxb
    replace hyb := Lib.hid hyb
    replace hub := Lib.hid hub
    go_loopw [7] (fun i wr => LivesRel w hb xb ub yb len i wr) (fun i _ => len + 1 - (intOf i).toNat)
    case atStart => exact ⟨⟨0, _, _, by omega, rfl, q1.out, ⟨rfl, rfl⟩, Int.le_refl _, Int.le_refl _, Int.le_refl _, Nat.le_refl _⟩⟩
    case round =>
      obtain ⟨⟨k, S, T, hk, rfl, qA, hkl, hla, hfa, hfT, hbn⟩⟩ := hrel
      clear q1
      by_cases hlt : k < len
      · have d1 : decide ((k : Int) < (len : Int)) = true := by simpa using hlt
        obtain ⟨ad, x, rfl, hadb, hx, hK⟩ := op6_at hr.out hlen hlt
        have hxo := hok x (List.mem_of_getElem? hx)
        have hxb0 := hxo.block.1
        have i1 : (0 : Int) ≤ (k : Int) := by omega
        have i2 : (k : Int) < (len : Int) := by omega
        have hg := step_grow S x
        have hgT := step_grow T x
        have hS1 : ∀ W, QE w hb xb ub yb S T W → _ := fun W q => q.same1 x hxo (by omega) (by omega)
        have hS2 : ∀ r W, QE w hb xb ub yb (S.step x r) T W → _ := fun r W q => q.same2 x hxo (by have := hkl.2; omega) (by omega)
        have hFa : ∀ r r' W, QE w hb xb ub yb (S.step x r) (T.step x r') W → _ := fun r r' W q => q.faults
        have hLo : ∀ r r' W, QE w hb xb ub yb (S.step x r) (T.step x r') W → _ := fun r r' W q => q.locked
        have hSi : ∀ r r' W, QE w hb xb ub yb (S.step x r) (T.step x r') W → _ := fun r r' W q => q.size x.block
        have hRS : ∀ r r' W, QE w hb xb ub yb (S.step x r) (T.step x r') W → _ := fun r r' W q => q.rsize x.block hxb0 (by have := hg r; omega)
        have hKL : ∀ r r', KeyLike (S.step x r) (T.step x r') := fun r r' => hkl.step x r r'
        have hgrow : ∀ r r', (S.step x r).last ≤ ((k + 1 : Nat) : Int) ∧ (S.step x r).faults ≤ ((k + 1 : Nat) : Int) ∧ (T.step x r').faults ≤ ((k + 1 : Nat) : Int) ∧ (S.step x r).blocks.length ≤ k + 1 := fun r r' => by
          have := hg r
          have := hgT r'
          refine ⟨?_, ?_, ?_, ?_⟩ <;> omega
        obtain ⟨kind, block, cell, old, new, text⟩ := x
        simp only [opCs] at hS1 hS2 hK hSi hRS
        obtain ⟨sA0, sA1, sA2, sA3, sA4, sA5⟩ := hK wr qA.below
        generalize hst : PHeap.step S ⟨kind, block, cell, old, new, text⟩ = St at *
        generalize htt : PHeap.step T ⟨kind, block, cell, old, new, text⟩ = Tt at *
        clear hg hgT hst htt
        replace hS1 := Lib.hid hS1
        replace hS2 := Lib.hid hS2
        replace hFa := Lib.hid hFa
        replace hLo := Lib.hid hLo
        replace hSi := Lib.hid hSi
        replace hRS := Lib.hid hRS
        replace hKL := Lib.hid hKL
        replace hgrow := Lib.hid hgrow
        replace hK := Lib.hid hK
        replace qA := Lib.hid qA
        replace hkl := Lib.hid hkl
        replace hx := Lib.hid hx
        replace hxo := Lib.hid hxo
        replace hla := Lib.hid hla
        replace hfa := Lib.hid hfa
        replace hfT := Lib.hid hfT
        replace hbn := Lib.hid hbn
        replace hadb := Lib.hid hadb
        replace hxb0 := Lib.hid hxb0
        go_upto_region 8 with fail
        refine wp_region_lex [(true, 0), (true, 1), (true, 2), (true, 3), (true, 4), (true, 5), (false, 6), (true, 7), (true, 8), (true, 9), (true, 10), (true, 11), (true, 12), (true, 13), (true, 14), (false, 15), (true, 16), (true, 17), (true, 18), (true, 19), (true, 21), (true, 22), (true, 23), (true, 24), (false, 20), (true, 25), (true, 26), (true, 27), (true, 28), (true, 30), (true, 31), (true, 32), (true, 33), (false, 29), (true, 34), (true, 35), (true, 36), (true, 37), (true, 38), (true, 39), (true, 40), (true, 41), (true, 42), (true, 44), (true, 45), (true, 46), (true, 47), (true, 48), (true, 49), (false, 43), (false, 50), (true, 51), (true, 52)] (fun W : World => W.cell? (ad.add (k * 6)) = some (.int .i64 kind) ∧ W.cell? ⟨(ad.add (k * 6)).block, (ad.add (k * 6)).off + 1, none⟩ = some (.int .u64 block) ∧ W.cell? ⟨(ad.add (k * 6)).block, (ad.add (k * 6)).off + 2, none⟩ = some (.int .i64 cell) ∧ W.cell? ⟨(ad.add (k * 6)).block, (ad.add (k * 6)).off + 3, none⟩ = some (.int .u64 old) ∧ W.cell? ⟨(ad.add (k * 6)).block, (ad.add (k * 6)).off + 4, none⟩ = some (.int .u64 new) ∧ W.cell? ⟨(ad.add (k * 6)).block, (ad.add (k * 6)).off + 5, none⟩ = some (.string text)) (by kernel_rfl) (by kernel_rfl) (fun R hR => ?_)
        have hHeld : (fun W : World => W.cell? (ad.add (k * 6)) = some (.int .i64 kind) ∧ W.cell? ⟨(ad.add (k * 6)).block, (ad.add (k * 6)).off + 1, none⟩ = some (.int .u64 block) ∧ W.cell? ⟨(ad.add (k * 6)).block, (ad.add (k * 6)).off + 2, none⟩ = some (.int .i64 cell) ∧ W.cell? ⟨(ad.add (k * 6)).block, (ad.add (k * 6)).off + 3, none⟩ = some (.int .u64 old) ∧ W.cell? ⟨(ad.add (k * 6)).block, (ad.add (k * 6)).off + 4, none⟩ = some (.int .u64 new) ∧ W.cell? ⟨(ad.add (k * 6)).block, (ad.add (k * 6)).off + 5, none⟩ = some (.string text)) wr.drew := hK.out _ qA.out.drew.below
        clear sA0 sA1 sA2 sA3 sA4 sA5
        repeat (refine lex_take (v := ?_) rfl (by rfl) (by assumption) ?_ ?_; rotate_left 1; (focus (intro w hSw; (try dsimp only at hSw); go_simp; (try with_reducible rfl))); (try simp only [Act.put, List.setIfInBounds_toArray, List.set_cons_zero, List.set_cons_succ]))
        (refine lex_call rfl (by rfl) (fun K hq => ?_); go_simp)
        go_at_call 10
        refine (hS1.out _ qA.out.drew).mono ?_; rintro e w2 ⟨rfl, r1, qB⟩
        clear hHeld hS1
        have hHeld : (fun W : World => W.cell? (ad.add (k * 6)) = some (.int .i64 kind) ∧ W.cell? ⟨(ad.add (k * 6)).block, (ad.add (k * 6)).off + 1, none⟩ = some (.int .u64 block) ∧ W.cell? ⟨(ad.add (k * 6)).block, (ad.add (k * 6)).off + 2, none⟩ = some (.int .i64 cell) ∧ W.cell? ⟨(ad.add (k * 6)).block, (ad.add (k * 6)).off + 3, none⟩ = some (.int .u64 old) ∧ W.cell? ⟨(ad.add (k * 6)).block, (ad.add (k * 6)).off + 4, none⟩ = some (.int .u64 new) ∧ W.cell? ⟨(ad.add (k * 6)).block, (ad.add (k * 6)).off + 5, none⟩ = some (.string text)) w2 := hK.out _ qB.below
        replace qB := Lib.hid qB
        go_wp2_with fail
        (refine hq.out _ _ (fun W : World => W.cell? (ad.add (k * 6)) = some (.int .i64 kind) ∧ W.cell? ⟨(ad.add (k * 6)).block, (ad.add (k * 6)).off + 1, none⟩ = some (.int .u64 block) ∧ W.cell? ⟨(ad.add (k * 6)).block, (ad.add (k * 6)).off + 2, none⟩ = some (.int .i64 cell) ∧ W.cell? ⟨(ad.add (k * 6)).block, (ad.add (k * 6)).off + 3, none⟩ = some (.int .u64 old) ∧ W.cell? ⟨(ad.add (k * 6)).block, (ad.add (k * 6)).off + 4, none⟩ = some (.int .u64 new) ∧ W.cell? ⟨(ad.add (k * 6)).block, (ad.add (k * 6)).off + 5, none⟩ = some (.string text)) (fun _ h => h) hHeld ?_; clear hq K; (try simp only [Act.put, List.setIfInBounds_toArray, List.set_cons_zero, List.set_cons_succ]))
        repeat (refine lex_take (v := ?_) rfl (by rfl) (by assumption) ?_ ?_; rotate_left 1; (focus (intro w hSw; (try dsimp only at hSw); go_simp; (try with_reducible rfl))); (try simp only [Act.put, List.setIfInBounds_toArray, List.set_cons_zero, List.set_cons_succ]))
        (refine lex_call rfl (by rfl) (fun K hq => ?_); go_simp)
        go_at_call 10
        refine (hS2.out _ _ qB.out).mono ?_; rintro e w3 ⟨rfl, r2, qC⟩
        clear hHeld hS2
        have hHeld : (fun W : World => (W.cell? (ad.add (k * 6)) = some (.int .i64 kind) ∧ W.cell? ⟨(ad.add (k * 6)).block, (ad.add (k * 6)).off + 1, none⟩ = some (.int .u64 block) ∧ W.cell? ⟨(ad.add (k * 6)).block, (ad.add (k * 6)).off + 2, none⟩ = some (.int .i64 cell) ∧ W.cell? ⟨(ad.add (k * 6)).block, (ad.add (k * 6)).off + 3, none⟩ = some (.int .u64 old) ∧ W.cell? ⟨(ad.add (k * 6)).block, (ad.add (k * 6)).off + 4, none⟩ = some (.int .u64 new) ∧ W.cell? ⟨(ad.add (k * 6)).block, (ad.add (k * 6)).off + 5, none⟩ = some (.string text)) ∧ W.cell? ⟨xb, 1, none⟩ = some (.bool (St r1).locked) ∧ W.cell? ⟨xb, 2, none⟩ = some (.int .i64 (St r1).faults)) w3 := ⟨hK.out _ qC.below, qC.cells⟩
        replace qC := Lib.hid qC
        go_wp2_with fail
        (refine hq.out _ _ (fun W : World => (W.cell? (ad.add (k * 6)) = some (.int .i64 kind) ∧ W.cell? ⟨(ad.add (k * 6)).block, (ad.add (k * 6)).off + 1, none⟩ = some (.int .u64 block) ∧ W.cell? ⟨(ad.add (k * 6)).block, (ad.add (k * 6)).off + 2, none⟩ = some (.int .i64 cell) ∧ W.cell? ⟨(ad.add (k * 6)).block, (ad.add (k * 6)).off + 3, none⟩ = some (.int .u64 old) ∧ W.cell? ⟨(ad.add (k * 6)).block, (ad.add (k * 6)).off + 4, none⟩ = some (.int .u64 new) ∧ W.cell? ⟨(ad.add (k * 6)).block, (ad.add (k * 6)).off + 5, none⟩ = some (.string text)) ∧ W.cell? ⟨xb, 1, none⟩ = some (.bool (St r1).locked) ∧ W.cell? ⟨xb, 2, none⟩ = some (.int .i64 (St r1).faults)) (fun _ h => h.1) hHeld ?_; clear hq K; (try simp only [Act.put, List.setIfInBounds_toArray, List.set_cons_zero, List.set_cons_succ]))
        repeat (refine lex_take (v := ?_) rfl (by rfl) (by assumption) ?_ ?_; rotate_left 1; (focus (intro w hSw; (try dsimp only at hSw); go_simp; (try with_reducible rfl))); (try simp only [Act.put, List.setIfInBounds_toArray, List.set_cons_zero, List.set_cons_succ]))
        (refine lex_call rfl (by rfl) (fun K hq => ?_); go_simp)
        go_at_call 12
        refine (hFa.out _ _ _ qC.out).mono ?_; rintro e w4 ⟨rfl, rfl⟩
        go_wp2_with fail
        (refine hq.out _ _ (fun W : World => (W.cell? (ad.add (k * 6)) = some (.int .i64 kind) ∧ W.cell? ⟨(ad.add (k * 6)).block, (ad.add (k * 6)).off + 1, none⟩ = some (.int .u64 block) ∧ W.cell? ⟨(ad.add (k * 6)).block, (ad.add (k * 6)).off + 2, none⟩ = some (.int .i64 cell) ∧ W.cell? ⟨(ad.add (k * 6)).block, (ad.add (k * 6)).off + 3, none⟩ = some (.int .u64 old) ∧ W.cell? ⟨(ad.add (k * 6)).block, (ad.add (k * 6)).off + 4, none⟩ = some (.int .u64 new) ∧ W.cell? ⟨(ad.add (k * 6)).block, (ad.add (k * 6)).off + 5, none⟩ = some (.string text)) ∧ W.cell? ⟨xb, 1, none⟩ = some (.bool (St r1).locked) ∧ W.cell? ⟨xb, 2, none⟩ = some (.int .i64 (St r1).faults)) (fun _ h => h) hHeld ?_; clear hq K; (try simp only [Act.put, List.setIfInBounds_toArray, List.set_cons_zero, List.set_cons_succ]))
        repeat (refine lex_take (v := ?_) rfl (by rfl) (by assumption) ?_ ?_; rotate_left 1; (focus (intro w hSw; (try dsimp only at hSw); go_simp; (try with_reducible rfl))); (try simp only [Act.put, List.setIfInBounds_toArray, List.set_cons_zero, List.set_cons_succ]))
        (refine lex_call rfl (by rfl) (fun K hq => ?_); go_simp)
        go_at_call 16
        refine (hLo.out _ _ _ qC.out).mono ?_; rintro e w4 ⟨rfl, rfl⟩
        go_wp2_with fail
        (refine hq.out _ _ (fun W : World => (W.cell? (ad.add (k * 6)) = some (.int .i64 kind) ∧ W.cell? ⟨(ad.add (k * 6)).block, (ad.add (k * 6)).off + 1, none⟩ = some (.int .u64 block) ∧ W.cell? ⟨(ad.add (k * 6)).block, (ad.add (k * 6)).off + 2, none⟩ = some (.int .i64 cell) ∧ W.cell? ⟨(ad.add (k * 6)).block, (ad.add (k * 6)).off + 3, none⟩ = some (.int .u64 old) ∧ W.cell? ⟨(ad.add (k * 6)).block, (ad.add (k * 6)).off + 4, none⟩ = some (.int .u64 new) ∧ W.cell? ⟨(ad.add (k * 6)).block, (ad.add (k * 6)).off + 5, none⟩ = some (.string text)) ∧ W.cell? ⟨xb, 1, none⟩ = some (.bool (St r1).locked) ∧ W.cell? ⟨xb, 2, none⟩ = some (.int .i64 (St r1).faults)) (fun _ h => h) hHeld ?_; clear hq K; (try simp only [Act.put, List.setIfInBounds_toArray, List.set_cons_zero, List.set_cons_succ]))
        repeat (refine lex_take (v := ?_) rfl (by rfl) (by assumption) ?_ ?_; rotate_left 1; (focus (intro w hSw; (try dsimp only at hSw); go_simp; (try with_reducible rfl))); (try simp only [Act.put, List.setIfInBounds_toArray, List.set_cons_zero, List.set_cons_succ]))
        (refine lex_call rfl (by rfl) (fun K hq => ?_); go_simp)
        go_at_call 17
        refine (hSi.out _ _ _ qC.out).mono ?_; rintro e w4 ⟨rfl, rfl⟩
        go_wp2_with fail
        (refine hq.out _ _ (fun W : World => (W.cell? (ad.add (k * 6)) = some (.int .i64 kind) ∧ W.cell? ⟨(ad.add (k * 6)).block, (ad.add (k * 6)).off + 1, none⟩ = some (.int .u64 block) ∧ W.cell? ⟨(ad.add (k * 6)).block, (ad.add (k * 6)).off + 2, none⟩ = some (.int .i64 cell) ∧ W.cell? ⟨(ad.add (k * 6)).block, (ad.add (k * 6)).off + 3, none⟩ = some (.int .u64 old) ∧ W.cell? ⟨(ad.add (k * 6)).block, (ad.add (k * 6)).off + 4, none⟩ = some (.int .u64 new) ∧ W.cell? ⟨(ad.add (k * 6)).block, (ad.add (k * 6)).off + 5, none⟩ = some (.string text)) ∧ W.cell? ⟨xb, 1, none⟩ = some (.bool (St r1).locked) ∧ W.cell? ⟨xb, 2, none⟩ = some (.int .i64 (St r1).faults)) (fun _ h => h) hHeld ?_; clear hq K; (try simp only [Act.put, List.setIfInBounds_toArray, List.set_cons_zero, List.set_cons_succ]))
        (refine lex_call rfl (by rfl) (fun K hq => ?_); go_simp)
        go_at_call 18
        refine (hRS.out _ _ _ qC.out).mono ?_; rintro e w4 ⟨rfl, rfl⟩
        go_wp2_with fail
        (refine hq.out _ _ (fun W : World => (W.cell? (ad.add (k * 6)) = some (.int .i64 kind) ∧ W.cell? ⟨(ad.add (k * 6)).block, (ad.add (k * 6)).off + 1, none⟩ = some (.int .u64 block) ∧ W.cell? ⟨(ad.add (k * 6)).block, (ad.add (k * 6)).off + 2, none⟩ = some (.int .i64 cell) ∧ W.cell? ⟨(ad.add (k * 6)).block, (ad.add (k * 6)).off + 3, none⟩ = some (.int .u64 old) ∧ W.cell? ⟨(ad.add (k * 6)).block, (ad.add (k * 6)).off + 4, none⟩ = some (.int .u64 new) ∧ W.cell? ⟨(ad.add (k * 6)).block, (ad.add (k * 6)).off + 5, none⟩ = some (.string text)) ∧ W.cell? ⟨xb, 1, none⟩ = some (.bool (St r1).locked) ∧ W.cell? ⟨xb, 2, none⟩ = some (.int .i64 (St r1).faults)) (fun _ h => h) hHeld ?_; clear hq K; (try simp only [Act.put, List.setIfInBounds_toArray, List.set_cons_zero, List.set_cons_succ]))
        repeat (refine lex_take (v := ?_) rfl (by rfl) (by assumption) ?_ ?_; rotate_left 1; (focus (intro w hSw; (try dsimp only at hSw); go_simp; (try with_reducible rfl))); (try simp only [Act.put, List.setIfInBounds_toArray, List.set_cons_zero, List.set_cons_succ]))
        refine lex_end ?_
        refine hR.out _ _ ?_
        clear hR R
        go_wp2_with fail
        go_roundw
        case rel => exact ⟨⟨k + 1, _, _, by omega, by go_num, (by first | exact qC.out | exact qC.out.drew | exact qC.out.drewN _), hKL.out r1 r2, (hgrow.out r1 r2).1, (hgrow.out r1 r2).2.1, (hgrow.out r1 r2).2.2.1, (hgrow.out r1 r2).2.2.2⟩⟩
        case measure => simp [intOf]; omega
      · have d1 : decide ((k : Int) < (len : Int)) = false := by simpa using hlt
        have hkl0 := hkl
        have e1 : T.sorted = S.sorted := hkl.sorted.symm
        have hTn : T.blocks.length ≤ 100000 := by have := congrArg List.length hkl.1; simp at this; omega
        have hSn : S.sorted.length ≤ 1000000 := by rw [sorted_len]; omega
        have hB1 : ∀ W, QE w hb xb ub yb S T W → _ := fun W q => q.blocks (by omega)
        have hB2 : ∀ W, QE w hb xb ub yb S T W → _ := fun W q => q.rblocks (by omega)
        have hB3 : ∀ W, QE w hb xb ub yb S T W → _ := fun W q => q.swap.blocks hTn
        rw [e1] at hB3
        have hSa : ∀ (A1 A2 : Option Addr) (c1 c2 B : Nat) (W : World), B ≤ W.heap.size → Reads W B 1 A1 S.sorted.length (S.sorted.map (Value.int .u64)) → Reads W B 1 A2 S.sorted.length (S.sorted.map (Value.int .u64)) → _ := fun A1 A2 c1 c2 B W hB h1 h2 => samerows_any A1 A2 S.sorted.length c1 c2 S.sorted hSn B W hB h1 h2
        generalize S.sorted = xs at *
        replace hB1 := Lib.hid hB1
        replace hB2 := Lib.hid hB2
        replace hB3 := Lib.hid hB3
        replace hSa := Lib.hid hSa
        replace qA := Lib.hid qA
        replace hkl := Lib.hid hkl
        clear hkl0 hTn
        replace e1 := Lib.hid e1
        go_wp2_with fail
        refine (hB1.out _ qA.out).mono ?_; rintro e w2 ⟨A2, c2, rfl, hr2, qB, _⟩
        replace qB := Lib.hid qB
        replace hr2 := Lib.hid hr2
        go_wp2_with fail
        refine (hB2.out _ qB.out).mono ?_; rintro e w3 ⟨A3, c3, rfl, hr3, qC, hb3⟩
        have hr2' := (hr2.out.below hb3).more hb3.size
        have hS3 := hSa.out A2 A3 c2 c3 _ w3 (Nat.le_refl _) hr2' hr3
        clear hr2 hr2' hr3 hb3
        replace qC := Lib.hid qC
        replace hS3 := Lib.hid hS3
        go_wp2_with fail
        refine (hS3.out).mono ?_; rintro e w4 ⟨rfl, hb4⟩
        have qD := qC.out.keep hb4
        clear hb4 hS3
        replace qD := Lib.hid qD
        go_wp2_with fail
        refine (hB3.out _ qD.out).mono ?_; rintro e w5 ⟨A5, c5, rfl, hr5, qE, _⟩
        replace qE := Lib.hid qE
        replace hr5 := Lib.hid hr5
        go_wp2_with fail
        refine (hB2.out _ qE.out.swap).mono ?_; rintro e w6 ⟨A6, c6, rfl, hr6, qF, hb6⟩
        have hr5' := (hr5.out.below hb6).more hb6.size
        have hS6 := hSa.out A5 A6 c5 c6 _ w6 (Nat.le_refl _) hr5' hr6
        clear hr5 hr5' hr6 hb6
        replace qF := Lib.hid qF
        replace hS6 := Lib.hid hS6
        go_wp2_with fail
        refine (hS6.out).mono ?_; rintro e w7 ⟨rfl, hb7⟩
        have qG := (qF.out.keep hb7).below
        clear hb7 hS6
        replace qG := Lib.hid qG
        go_wp2_with fail
        refine (awake17 _).mono ?_; rintro e w8 ⟨rfl, hb8⟩
        go_wp2_with fail
        go_ret
        exact ⟨rfl, Below.next_ qG.out hb8⟩
end Go.Proofs.Ytjoaifdjmdihoaa
