/-
  The walk over the law of what acts do (layer 18). No condition.
-/
import Derived.Test.YtjoaifdjmdihoaaDoorActD
import Derived.Test.YtjoaifdjmdihoaaDoorLexH
namespace Go.Proofs.YtjoaifdjmdihoaaDoor
set_option linter.unusedVariables false
open Go.ChangeShapes Go.WideShapes Go.ChangeAt Go.RowKit
open Go.ChangeMaps (setBlock)

/-- Between two rounds. -/
structure DoesRel (w : World) (hb xb len : Nat) (i : Value) (wr : World) : Prop where
  ex : ∃ (k : Nat) (S : PHeap), k ≤ len ∧ i = .int .i64 k ∧ DE w hb xb S S wr ∧ S.last ≤ k ∧ S.faults ≤ k ∧ S.blocks.length ≤ k
set_option maxRecDepth 100000 in
set_option maxHeartbeats 4000000 in
theorem walkDoes (A : Option Addr) (len cap : Nat) (l : List PAct) (hlen : l.length = len) (hok : ∀ x ∈ l, x.Ok) (hmax : len ≤ maxLen) (w : World) (hr : Reads w w.heap.size 6 A len (actL l)) :
    Calls Tryd.prog 3 #[.slice A len cap] w fun e w' => e = .returned (.bool true) ∧ Below w.heap.size w w' := by
  have hFe := few18_any A len cap l hlen hmax 100 w hr
  replace hr := Lib.hid hr
  replace hFe := Lib.hid hFe
  go_enter Tryd.func3, Tryd.ntmps3
  go_wp2_with fail
  refine (hFe.out).mono ?_; rintro e w0 ⟨fb, rfl, hfb, rfl⟩
  clear hFe
  cases fb with
  | false =>
    replace hfb := Lib.hid hfb
    go_wp2_with fail
    refine (awake18 _).mono ?_; rintro e w7 ⟨rfl, hb7⟩
    go_wp2_with fail
    go_ret
    exact ⟨rfl, hb7⟩
  | true =>
    have hl100 : len ≤ 100 := by have := hfb rfl; omega
    clear hfb
    go_wp2_with fail
    refine (new_sess _).mono ?_; rintro e w1 ⟨hb, rfl, s1⟩
    have q1 := DE.start s1
    replace s1 := Lib.hid s1
    replace q1 := Lib.hid q1
    go_wp2_with fail
    generalize hxb : w1.heap.size = xb at *
    replace hxb := Lib.hid hxb
    go_loopw [5] (fun i wr => DoesRel w hb xb len i wr) (fun i _ => len + 1 - (intOf i).toNat)
    case atStart => exact ⟨⟨0, _, by omega, rfl, q1.out, Int.le_refl _, Int.le_refl _, Nat.le_refl _⟩⟩
    case round =>
      obtain ⟨⟨k, S, hk, rfl, qA, hla, hfa, hbn⟩⟩ := hrel
      clear q1
      by_cases hlt : k < len
      · have d1 : decide ((k : Int) < (len : Int)) = true := by simpa using hlt
        obtain ⟨ad, x, rfl, hadb, hx, hK⟩ := act6_at hr.out hlen hlt
        have hxo := hok x (List.mem_of_getElem? hx)
        have i1 : (0 : Int) ≤ (k : Int) := by omega
        have i2 : (k : Int) < (len : Int) := by omega
        have hRi := fun W => right_any x W hxo.text
        have hRR := fun W => rright_any x W hxo.text
        have hLo := fun W => looks_any x hxo W
        have hRL := fun W => rlooks_any x hxo W
        have hRd : ∀ W, DE w hb xb S S W → _ := fun W q => q.ready x hxo (by omega)
        have hRRd : ∀ W, DE w hb xb S S W → _ := fun W q => q.rready x hxo (by omega) (by omega)
        have hDo : ∀ W, DE w hb xb S S W → Calls Tryd.prog 15 #[.pointer (some ⟨hb, 0, none⟩), x.val] W fun e W' => ∃ (gw : Int) (gt : ByteArray) (S1 : PHeap), (∃ r, S.act x r = (⟨gw, gt⟩, S1)) ∧ e = .returned (.agg #[.int .u64 gw, .string gt]) ∧ DE w hb xb S1 S W' := fun W q =>
          (q.does x hxo (by omega) (by omega)).mono fun e W' ⟨r, he, hq⟩ => ⟨(S.act x r).1.word, (S.act x r).1.text, (S.act x r).2, ⟨r, rfl⟩, he, hq⟩
        have hRDo : ∀ (gw : Int) (gt : ByteArray) (S1 : PHeap) W, (∃ r, S.act x r = (⟨gw, gt⟩, S1)) → DE w hb xb S1 S W → Calls Tryd.prog 16 #[.pointer (some ⟨xb, 0, none⟩), x.val] W fun e W' => e = .returned (.agg #[.int .u64 gw, .string gt]) ∧ DE w hb xb S1 S1 W' := fun gw gt S1 W ⟨r, hr⟩ q =>
          (q.rdoes x hxo (by omega) (by omega) r).mono fun e W' ⟨he, hq⟩ => by
            rw [hr] at he hq
            exact ⟨he, hq⟩
        have hgrow : ∀ (gw : Int) (gt : ByteArray) (S1 : PHeap), (∃ r, S.act x r = (⟨gw, gt⟩, S1)) → S1.last ≤ ((k + 1 : Nat) : Int) ∧ S1.faults ≤ ((k + 1 : Nat) : Int) ∧ S1.blocks.length ≤ k + 1 := fun gw gt S1 ⟨r, hr⟩ => by
          have h := act_grow S x r
          rw [hr] at h
          have h1 : S1.last ≤ S.last + 1 := h.1
          have h2 : S1.faults ≤ S.faults + 1 := h.2.1
          have h3 : S1.blocks.length ≤ S.blocks.length + 1 := h.2.2
          refine ⟨?_, ?_, ?_⟩ <;> omega
        have hFa : ∀ S1 W, DE w hb xb S1 S1 W → _ := fun S1 W q => q.faults
        have hLk : ∀ S1 W, DE w hb xb S1 S1 W → _ := fun S1 W q => q.locked
        generalize x.right = rt at *
        generalize x.looks = lk at *
        generalize S.ready x = rd at *
        obtain ⟨kind, block, cell, old, new, text⟩ := x
        simp only [PAct.val] at hRi hRR hLo hRL hRd hRRd hDo hRDo hK
        obtain ⟨sA0, sA1, sA2, sA3, sA4, sA5⟩ := hK wr qA.below
        replace hRi := Lib.hid hRi
        replace hRR := Lib.hid hRR
        replace hLo := Lib.hid hLo
        replace hRL := Lib.hid hRL
        replace hRd := Lib.hid hRd
        replace hRRd := Lib.hid hRRd
        replace hDo := Lib.hid hDo
        replace hRDo := Lib.hid hRDo
        replace hgrow := Lib.hid hgrow
        replace hFa := Lib.hid hFa
        replace hLk := Lib.hid hLk
        replace hK := Lib.hid hK
        replace qA := Lib.hid qA
        replace hx := Lib.hid hx
        replace hxo := Lib.hid hxo
        replace hla := Lib.hid hla
        replace hfa := Lib.hid hfa
        replace hbn := Lib.hid hbn
        replace hadb := Lib.hid hadb
        go_upto_region 7 with fail
        refine wp_region_lex [(true, 0), (true, 1), (true, 2), (true, 3), (true, 5), (true, 6), (true, 7), (true, 8), (false, 4), (false, 9), (true, 10), (true, 11), (true, 12), (true, 13), (true, 14), (true, 15), (true, 17), (true, 18), (true, 19), (true, 20), (false, 16), (false, 21), (true, 22), (true, 23), (true, 24), (true, 25), (true, 26), (true, 27), (true, 28), (true, 29), (true, 31), (true, 32), (true, 33), (true, 34), (true, 35), (false, 30), (false, 36), (true, 37), (true, 38), (true, 39), (true, 40), (true, 41), (true, 42), (true, 43), (true, 44), (true, 46), (true, 47), (true, 48), (true, 49), (true, 50), (false, 45), (false, 51), (true, 52), (true, 53), (true, 54), (true, 55), (true, 57), (true, 58), (true, 59), (true, 60), (false, 56), (true, 61), (true, 62), (true, 63), (true, 64), (true, 66), (true, 67), (true, 68), (true, 69), (false, 65), (true, 70), (true, 71)] (fun W : World => W.cell? (ad.add (k * 6)) = some (.int .i64 kind) ∧ W.cell? ⟨(ad.add (k * 6)).block, (ad.add (k * 6)).off + 1, none⟩ = some (.int .u64 block) ∧ W.cell? ⟨(ad.add (k * 6)).block, (ad.add (k * 6)).off + 2, none⟩ = some (.int .i64 cell) ∧ W.cell? ⟨(ad.add (k * 6)).block, (ad.add (k * 6)).off + 3, none⟩ = some (.int .u64 old) ∧ W.cell? ⟨(ad.add (k * 6)).block, (ad.add (k * 6)).off + 4, none⟩ = some (.int .u64 new) ∧ W.cell? ⟨(ad.add (k * 6)).block, (ad.add (k * 6)).off + 5, none⟩ = some (.string text)) (by kernel_rfl) (by kernel_rfl) (fun R hR => ?_)
        have hHeld : (fun W : World => W.cell? (ad.add (k * 6)) = some (.int .i64 kind) ∧ W.cell? ⟨(ad.add (k * 6)).block, (ad.add (k * 6)).off + 1, none⟩ = some (.int .u64 block) ∧ W.cell? ⟨(ad.add (k * 6)).block, (ad.add (k * 6)).off + 2, none⟩ = some (.int .i64 cell) ∧ W.cell? ⟨(ad.add (k * 6)).block, (ad.add (k * 6)).off + 3, none⟩ = some (.int .u64 old) ∧ W.cell? ⟨(ad.add (k * 6)).block, (ad.add (k * 6)).off + 4, none⟩ = some (.int .u64 new) ∧ W.cell? ⟨(ad.add (k * 6)).block, (ad.add (k * 6)).off + 5, none⟩ = some (.string text)) wr.drew := hK.out _ qA.out.drew.below
        have q0 := qA.out.drew
        clear sA0 sA1 sA2 sA3 sA4 sA5 qA
        replace q0 := Lib.hid q0
        repeat (refine lex_take (v := ?_) rfl (by rfl) (by assumption) ?_ ?_; rotate_left 1; (focus (intro w hSw; (try dsimp only at hSw); go_simp; (try with_reducible rfl))); (try simp only [Act.put, List.setIfInBounds_toArray, List.set_cons_zero, List.set_cons_succ]))
        (refine lex_call rfl (by rfl) (fun K hq => ?_); go_simp)
        go_at_call 9
        refine (hRi.out _).mono ?_; rintro e w2 ⟨rfl, hb2⟩
        clear hHeld
        replace q0 := q0.out.keep hb2
        clear hb2
        have hHeld : (fun W : World => W.cell? (ad.add (k * 6)) = some (.int .i64 kind) ∧ W.cell? ⟨(ad.add (k * 6)).block, (ad.add (k * 6)).off + 1, none⟩ = some (.int .u64 block) ∧ W.cell? ⟨(ad.add (k * 6)).block, (ad.add (k * 6)).off + 2, none⟩ = some (.int .i64 cell) ∧ W.cell? ⟨(ad.add (k * 6)).block, (ad.add (k * 6)).off + 3, none⟩ = some (.int .u64 old) ∧ W.cell? ⟨(ad.add (k * 6)).block, (ad.add (k * 6)).off + 4, none⟩ = some (.int .u64 new) ∧ W.cell? ⟨(ad.add (k * 6)).block, (ad.add (k * 6)).off + 5, none⟩ = some (.string text)) w2 := hK.out _ q0.below
        replace q0 := Lib.hid q0
        go_wp2_with fail
        (refine hq.out _ _ (fun W : World => W.cell? (ad.add (k * 6)) = some (.int .i64 kind) ∧ W.cell? ⟨(ad.add (k * 6)).block, (ad.add (k * 6)).off + 1, none⟩ = some (.int .u64 block) ∧ W.cell? ⟨(ad.add (k * 6)).block, (ad.add (k * 6)).off + 2, none⟩ = some (.int .i64 cell) ∧ W.cell? ⟨(ad.add (k * 6)).block, (ad.add (k * 6)).off + 3, none⟩ = some (.int .u64 old) ∧ W.cell? ⟨(ad.add (k * 6)).block, (ad.add (k * 6)).off + 4, none⟩ = some (.int .u64 new) ∧ W.cell? ⟨(ad.add (k * 6)).block, (ad.add (k * 6)).off + 5, none⟩ = some (.string text)) (fun _ h => h) hHeld ?_; clear hq K; (try simp only [Act.put, List.setIfInBounds_toArray, List.set_cons_zero, List.set_cons_succ]))
        repeat (refine lex_take (v := ?_) rfl (by rfl) (by assumption) ?_ ?_; rotate_left 1; (focus (intro w hSw; (try dsimp only at hSw); go_simp; (try with_reducible rfl))); (try simp only [Act.put, List.setIfInBounds_toArray, List.set_cons_zero, List.set_cons_succ]))
        (refine lex_call rfl (by rfl) (fun K hq => ?_); go_simp)
        go_at_call 10
        refine (hRR.out _).mono ?_; rintro e w2 ⟨rfl, hb2⟩
        clear hHeld
        replace q0 := q0.out.keep hb2
        clear hb2
        have hHeld : (fun W : World => W.cell? (ad.add (k * 6)) = some (.int .i64 kind) ∧ W.cell? ⟨(ad.add (k * 6)).block, (ad.add (k * 6)).off + 1, none⟩ = some (.int .u64 block) ∧ W.cell? ⟨(ad.add (k * 6)).block, (ad.add (k * 6)).off + 2, none⟩ = some (.int .i64 cell) ∧ W.cell? ⟨(ad.add (k * 6)).block, (ad.add (k * 6)).off + 3, none⟩ = some (.int .u64 old) ∧ W.cell? ⟨(ad.add (k * 6)).block, (ad.add (k * 6)).off + 4, none⟩ = some (.int .u64 new) ∧ W.cell? ⟨(ad.add (k * 6)).block, (ad.add (k * 6)).off + 5, none⟩ = some (.string text)) w2 := hK.out _ q0.below
        replace q0 := Lib.hid q0
        go_wp2_with fail
        (refine hq.out _ _ (fun W : World => W.cell? (ad.add (k * 6)) = some (.int .i64 kind) ∧ W.cell? ⟨(ad.add (k * 6)).block, (ad.add (k * 6)).off + 1, none⟩ = some (.int .u64 block) ∧ W.cell? ⟨(ad.add (k * 6)).block, (ad.add (k * 6)).off + 2, none⟩ = some (.int .i64 cell) ∧ W.cell? ⟨(ad.add (k * 6)).block, (ad.add (k * 6)).off + 3, none⟩ = some (.int .u64 old) ∧ W.cell? ⟨(ad.add (k * 6)).block, (ad.add (k * 6)).off + 4, none⟩ = some (.int .u64 new) ∧ W.cell? ⟨(ad.add (k * 6)).block, (ad.add (k * 6)).off + 5, none⟩ = some (.string text)) (fun _ h => h) hHeld ?_; clear hq K; (try simp only [Act.put, List.setIfInBounds_toArray, List.set_cons_zero, List.set_cons_succ]))
        repeat (refine lex_take (v := ?_) rfl (by rfl) (by assumption) ?_ ?_; rotate_left 1; (focus (intro w hSw; (try dsimp only at hSw); go_simp; (try with_reducible rfl))); (try simp only [Act.put, List.setIfInBounds_toArray, List.set_cons_zero, List.set_cons_succ]))
        (refine lex_call rfl (by rfl) (fun K hq => ?_); go_simp)
        go_at_call 11
        refine (hLo.out _).mono ?_; rintro e w2 ⟨rfl, hb2⟩
        clear hHeld
        replace q0 := q0.out.keep hb2
        clear hb2
        have hHeld : (fun W : World => W.cell? (ad.add (k * 6)) = some (.int .i64 kind) ∧ W.cell? ⟨(ad.add (k * 6)).block, (ad.add (k * 6)).off + 1, none⟩ = some (.int .u64 block) ∧ W.cell? ⟨(ad.add (k * 6)).block, (ad.add (k * 6)).off + 2, none⟩ = some (.int .i64 cell) ∧ W.cell? ⟨(ad.add (k * 6)).block, (ad.add (k * 6)).off + 3, none⟩ = some (.int .u64 old) ∧ W.cell? ⟨(ad.add (k * 6)).block, (ad.add (k * 6)).off + 4, none⟩ = some (.int .u64 new) ∧ W.cell? ⟨(ad.add (k * 6)).block, (ad.add (k * 6)).off + 5, none⟩ = some (.string text)) w2 := hK.out _ q0.below
        replace q0 := Lib.hid q0
        go_wp2_with fail
        (refine hq.out _ _ (fun W : World => W.cell? (ad.add (k * 6)) = some (.int .i64 kind) ∧ W.cell? ⟨(ad.add (k * 6)).block, (ad.add (k * 6)).off + 1, none⟩ = some (.int .u64 block) ∧ W.cell? ⟨(ad.add (k * 6)).block, (ad.add (k * 6)).off + 2, none⟩ = some (.int .i64 cell) ∧ W.cell? ⟨(ad.add (k * 6)).block, (ad.add (k * 6)).off + 3, none⟩ = some (.int .u64 old) ∧ W.cell? ⟨(ad.add (k * 6)).block, (ad.add (k * 6)).off + 4, none⟩ = some (.int .u64 new) ∧ W.cell? ⟨(ad.add (k * 6)).block, (ad.add (k * 6)).off + 5, none⟩ = some (.string text)) (fun _ h => h) hHeld ?_; clear hq K; (try simp only [Act.put, List.setIfInBounds_toArray, List.set_cons_zero, List.set_cons_succ]))
        repeat (refine lex_take (v := ?_) rfl (by rfl) (by assumption) ?_ ?_; rotate_left 1; (focus (intro w hSw; (try dsimp only at hSw); go_simp; (try with_reducible rfl))); (try simp only [Act.put, List.setIfInBounds_toArray, List.set_cons_zero, List.set_cons_succ]))
        (refine lex_call rfl (by rfl) (fun K hq => ?_); go_simp)
        go_at_call 12
        refine (hRL.out _).mono ?_; rintro e w2 ⟨rfl, hb2⟩
        clear hHeld
        replace q0 := q0.out.keep hb2
        clear hb2
        have hHeld : (fun W : World => W.cell? (ad.add (k * 6)) = some (.int .i64 kind) ∧ W.cell? ⟨(ad.add (k * 6)).block, (ad.add (k * 6)).off + 1, none⟩ = some (.int .u64 block) ∧ W.cell? ⟨(ad.add (k * 6)).block, (ad.add (k * 6)).off + 2, none⟩ = some (.int .i64 cell) ∧ W.cell? ⟨(ad.add (k * 6)).block, (ad.add (k * 6)).off + 3, none⟩ = some (.int .u64 old) ∧ W.cell? ⟨(ad.add (k * 6)).block, (ad.add (k * 6)).off + 4, none⟩ = some (.int .u64 new) ∧ W.cell? ⟨(ad.add (k * 6)).block, (ad.add (k * 6)).off + 5, none⟩ = some (.string text)) w2 := hK.out _ q0.below
        replace q0 := Lib.hid q0
        go_wp2_with fail
        (refine hq.out _ _ (fun W : World => W.cell? (ad.add (k * 6)) = some (.int .i64 kind) ∧ W.cell? ⟨(ad.add (k * 6)).block, (ad.add (k * 6)).off + 1, none⟩ = some (.int .u64 block) ∧ W.cell? ⟨(ad.add (k * 6)).block, (ad.add (k * 6)).off + 2, none⟩ = some (.int .i64 cell) ∧ W.cell? ⟨(ad.add (k * 6)).block, (ad.add (k * 6)).off + 3, none⟩ = some (.int .u64 old) ∧ W.cell? ⟨(ad.add (k * 6)).block, (ad.add (k * 6)).off + 4, none⟩ = some (.int .u64 new) ∧ W.cell? ⟨(ad.add (k * 6)).block, (ad.add (k * 6)).off + 5, none⟩ = some (.string text)) (fun _ h => h) hHeld ?_; clear hq K; (try simp only [Act.put, List.setIfInBounds_toArray, List.set_cons_zero, List.set_cons_succ]))
        repeat (refine lex_take (v := ?_) rfl (by rfl) (by assumption) ?_ ?_; rotate_left 1; (focus (intro w hSw; (try dsimp only at hSw); go_simp; (try with_reducible rfl))); (try simp only [Act.put, List.setIfInBounds_toArray, List.set_cons_zero, List.set_cons_succ]))
        (refine lex_call rfl (by rfl) (fun K hq => ?_); go_simp)
        go_at_call 13
        refine (hRd.out _ q0.out).mono ?_; rintro e w2 ⟨rfl, q2⟩
        clear hHeld
        clear q0
        have q0 := q2
        clear q2
        have hHeld : (fun W : World => W.cell? (ad.add (k * 6)) = some (.int .i64 kind) ∧ W.cell? ⟨(ad.add (k * 6)).block, (ad.add (k * 6)).off + 1, none⟩ = some (.int .u64 block) ∧ W.cell? ⟨(ad.add (k * 6)).block, (ad.add (k * 6)).off + 2, none⟩ = some (.int .i64 cell) ∧ W.cell? ⟨(ad.add (k * 6)).block, (ad.add (k * 6)).off + 3, none⟩ = some (.int .u64 old) ∧ W.cell? ⟨(ad.add (k * 6)).block, (ad.add (k * 6)).off + 4, none⟩ = some (.int .u64 new) ∧ W.cell? ⟨(ad.add (k * 6)).block, (ad.add (k * 6)).off + 5, none⟩ = some (.string text)) w2 := hK.out _ q0.below
        replace q0 := Lib.hid q0
        go_wp2_with fail
        (refine hq.out _ _ (fun W : World => W.cell? (ad.add (k * 6)) = some (.int .i64 kind) ∧ W.cell? ⟨(ad.add (k * 6)).block, (ad.add (k * 6)).off + 1, none⟩ = some (.int .u64 block) ∧ W.cell? ⟨(ad.add (k * 6)).block, (ad.add (k * 6)).off + 2, none⟩ = some (.int .i64 cell) ∧ W.cell? ⟨(ad.add (k * 6)).block, (ad.add (k * 6)).off + 3, none⟩ = some (.int .u64 old) ∧ W.cell? ⟨(ad.add (k * 6)).block, (ad.add (k * 6)).off + 4, none⟩ = some (.int .u64 new) ∧ W.cell? ⟨(ad.add (k * 6)).block, (ad.add (k * 6)).off + 5, none⟩ = some (.string text)) (fun _ h => h) hHeld ?_; clear hq K; (try simp only [Act.put, List.setIfInBounds_toArray, List.set_cons_zero, List.set_cons_succ]))
        repeat (refine lex_take (v := ?_) rfl (by rfl) (by assumption) ?_ ?_; rotate_left 1; (focus (intro w hSw; (try dsimp only at hSw); go_simp; (try with_reducible rfl))); (try simp only [Act.put, List.setIfInBounds_toArray, List.set_cons_zero, List.set_cons_succ]))
        (refine lex_call rfl (by rfl) (fun K hq => ?_); go_simp)
        go_at_call 14
        refine (hRRd.out _ q0.out).mono ?_; rintro e w2 ⟨rfl, q2⟩
        clear hHeld
        clear q0
        have q0 := q2
        clear q2
        have hHeld : (fun W : World => W.cell? (ad.add (k * 6)) = some (.int .i64 kind) ∧ W.cell? ⟨(ad.add (k * 6)).block, (ad.add (k * 6)).off + 1, none⟩ = some (.int .u64 block) ∧ W.cell? ⟨(ad.add (k * 6)).block, (ad.add (k * 6)).off + 2, none⟩ = some (.int .i64 cell) ∧ W.cell? ⟨(ad.add (k * 6)).block, (ad.add (k * 6)).off + 3, none⟩ = some (.int .u64 old) ∧ W.cell? ⟨(ad.add (k * 6)).block, (ad.add (k * 6)).off + 4, none⟩ = some (.int .u64 new) ∧ W.cell? ⟨(ad.add (k * 6)).block, (ad.add (k * 6)).off + 5, none⟩ = some (.string text)) w2 := hK.out _ q0.below
        replace q0 := Lib.hid q0
        go_wp2_with fail
        (refine hq.out _ _ (fun W : World => W.cell? (ad.add (k * 6)) = some (.int .i64 kind) ∧ W.cell? ⟨(ad.add (k * 6)).block, (ad.add (k * 6)).off + 1, none⟩ = some (.int .u64 block) ∧ W.cell? ⟨(ad.add (k * 6)).block, (ad.add (k * 6)).off + 2, none⟩ = some (.int .i64 cell) ∧ W.cell? ⟨(ad.add (k * 6)).block, (ad.add (k * 6)).off + 3, none⟩ = some (.int .u64 old) ∧ W.cell? ⟨(ad.add (k * 6)).block, (ad.add (k * 6)).off + 4, none⟩ = some (.int .u64 new) ∧ W.cell? ⟨(ad.add (k * 6)).block, (ad.add (k * 6)).off + 5, none⟩ = some (.string text)) (fun _ h => h) hHeld ?_; clear hq K; (try simp only [Act.put, List.setIfInBounds_toArray, List.set_cons_zero, List.set_cons_succ]))
        repeat (refine lex_take (v := ?_) rfl (by rfl) (by assumption) ?_ ?_; rotate_left 1; (focus (intro w hSw; (try dsimp only at hSw); go_simp; (try with_reducible rfl))); (try simp only [Act.put, List.setIfInBounds_toArray, List.set_cons_zero, List.set_cons_succ]))
        (refine lex_call rfl (by rfl) (fun K hq => ?_); go_simp)
        go_at_call 15
        refine (hDo.out _ q0.out).mono ?_; rintro e w2 ⟨gw, gt, S1, hS1, rfl, q2⟩
        clear hHeld
        clear q0
        have q0 := q2
        clear q2
        replace hS1 := Lib.hid hS1
        have hHeld : (fun W : World => W.cell? (ad.add (k * 6)) = some (.int .i64 kind) ∧ W.cell? ⟨(ad.add (k * 6)).block, (ad.add (k * 6)).off + 1, none⟩ = some (.int .u64 block) ∧ W.cell? ⟨(ad.add (k * 6)).block, (ad.add (k * 6)).off + 2, none⟩ = some (.int .i64 cell) ∧ W.cell? ⟨(ad.add (k * 6)).block, (ad.add (k * 6)).off + 3, none⟩ = some (.int .u64 old) ∧ W.cell? ⟨(ad.add (k * 6)).block, (ad.add (k * 6)).off + 4, none⟩ = some (.int .u64 new) ∧ W.cell? ⟨(ad.add (k * 6)).block, (ad.add (k * 6)).off + 5, none⟩ = some (.string text)) w2 := hK.out _ q0.below
        replace q0 := Lib.hid q0
        go_wp2_with fail
        (refine hq.out _ _ (fun W : World => W.cell? (ad.add (k * 6)) = some (.int .i64 kind) ∧ W.cell? ⟨(ad.add (k * 6)).block, (ad.add (k * 6)).off + 1, none⟩ = some (.int .u64 block) ∧ W.cell? ⟨(ad.add (k * 6)).block, (ad.add (k * 6)).off + 2, none⟩ = some (.int .i64 cell) ∧ W.cell? ⟨(ad.add (k * 6)).block, (ad.add (k * 6)).off + 3, none⟩ = some (.int .u64 old) ∧ W.cell? ⟨(ad.add (k * 6)).block, (ad.add (k * 6)).off + 4, none⟩ = some (.int .u64 new) ∧ W.cell? ⟨(ad.add (k * 6)).block, (ad.add (k * 6)).off + 5, none⟩ = some (.string text)) (fun _ h => h) hHeld ?_; clear hq K; (try simp only [Act.put, List.setIfInBounds_toArray, List.set_cons_zero, List.set_cons_succ]))
        repeat (refine lex_take (v := ?_) rfl (by rfl) (by assumption) ?_ ?_; rotate_left 1; (focus (intro w hSw; (try dsimp only at hSw); go_simp; (try with_reducible rfl))); (try simp only [Act.put, List.setIfInBounds_toArray, List.set_cons_zero, List.set_cons_succ]))
        (refine lex_call rfl (by rfl) (fun K hq => ?_); go_simp)
        go_at_call 16
        refine (hRDo.out _ _ _ _ hS1.out q0.out).mono ?_; rintro e w2 ⟨rfl, q2⟩
        clear hHeld
        clear q0
        have q0 := q2
        clear q2
        have hHeld : (fun W : World => (W.cell? (ad.add (k * 6)) = some (.int .i64 kind) ∧ W.cell? ⟨(ad.add (k * 6)).block, (ad.add (k * 6)).off + 1, none⟩ = some (.int .u64 block) ∧ W.cell? ⟨(ad.add (k * 6)).block, (ad.add (k * 6)).off + 2, none⟩ = some (.int .i64 cell) ∧ W.cell? ⟨(ad.add (k * 6)).block, (ad.add (k * 6)).off + 3, none⟩ = some (.int .u64 old) ∧ W.cell? ⟨(ad.add (k * 6)).block, (ad.add (k * 6)).off + 4, none⟩ = some (.int .u64 new) ∧ W.cell? ⟨(ad.add (k * 6)).block, (ad.add (k * 6)).off + 5, none⟩ = some (.string text)) ∧ W.cell? ⟨xb, 1, none⟩ = some (.bool (S1).locked) ∧ W.cell? ⟨xb, 2, none⟩ = some (.int .i64 (S1).faults)) w2 := ⟨hK.out _ q0.below, q0.cells⟩
        replace q0 := Lib.hid q0
        go_wp2_with fail
        (refine hq.out _ _ (fun W : World => (W.cell? (ad.add (k * 6)) = some (.int .i64 kind) ∧ W.cell? ⟨(ad.add (k * 6)).block, (ad.add (k * 6)).off + 1, none⟩ = some (.int .u64 block) ∧ W.cell? ⟨(ad.add (k * 6)).block, (ad.add (k * 6)).off + 2, none⟩ = some (.int .i64 cell) ∧ W.cell? ⟨(ad.add (k * 6)).block, (ad.add (k * 6)).off + 3, none⟩ = some (.int .u64 old) ∧ W.cell? ⟨(ad.add (k * 6)).block, (ad.add (k * 6)).off + 4, none⟩ = some (.int .u64 new) ∧ W.cell? ⟨(ad.add (k * 6)).block, (ad.add (k * 6)).off + 5, none⟩ = some (.string text)) ∧ W.cell? ⟨xb, 1, none⟩ = some (.bool (S1).locked) ∧ W.cell? ⟨xb, 2, none⟩ = some (.int .i64 (S1).faults)) (fun _ h => h.1) hHeld ?_; clear hq K; (try simp only [Act.put, List.setIfInBounds_toArray, List.set_cons_zero, List.set_cons_succ]))
        repeat (refine lex_take (v := ?_) rfl (by rfl) (by assumption) ?_ ?_; rotate_left 1; (focus (intro w hSw; (try dsimp only at hSw); go_simp; (try with_reducible rfl))); (try simp only [Act.put, List.setIfInBounds_toArray, List.set_cons_zero, List.set_cons_succ]))
        (refine lex_call rfl (by rfl) (fun K hq => ?_); go_simp)
        go_at_call 17
        refine (hFa.out _ _ q0.out).mono ?_; rintro e w3 ⟨rfl, rfl⟩
        go_wp2_with fail
        (refine hq.out _ _ (fun W : World => (W.cell? (ad.add (k * 6)) = some (.int .i64 kind) ∧ W.cell? ⟨(ad.add (k * 6)).block, (ad.add (k * 6)).off + 1, none⟩ = some (.int .u64 block) ∧ W.cell? ⟨(ad.add (k * 6)).block, (ad.add (k * 6)).off + 2, none⟩ = some (.int .i64 cell) ∧ W.cell? ⟨(ad.add (k * 6)).block, (ad.add (k * 6)).off + 3, none⟩ = some (.int .u64 old) ∧ W.cell? ⟨(ad.add (k * 6)).block, (ad.add (k * 6)).off + 4, none⟩ = some (.int .u64 new) ∧ W.cell? ⟨(ad.add (k * 6)).block, (ad.add (k * 6)).off + 5, none⟩ = some (.string text)) ∧ W.cell? ⟨xb, 1, none⟩ = some (.bool (S1).locked) ∧ W.cell? ⟨xb, 2, none⟩ = some (.int .i64 (S1).faults)) (fun _ h => h) hHeld ?_; clear hq K; (try simp only [Act.put, List.setIfInBounds_toArray, List.set_cons_zero, List.set_cons_succ]))
        repeat (refine lex_take (v := ?_) rfl (by rfl) (by assumption) ?_ ?_; rotate_left 1; (focus (intro w hSw; (try dsimp only at hSw); go_simp; (try with_reducible rfl))); (try simp only [Act.put, List.setIfInBounds_toArray, List.set_cons_zero, List.set_cons_succ]))
        (refine lex_call rfl (by rfl) (fun K hq => ?_); go_simp)
        go_at_call 18
        refine (hLk.out _ _ q0.out).mono ?_; rintro e w3 ⟨rfl, rfl⟩
        go_wp2_with fail
        (refine hq.out _ _ (fun W : World => (W.cell? (ad.add (k * 6)) = some (.int .i64 kind) ∧ W.cell? ⟨(ad.add (k * 6)).block, (ad.add (k * 6)).off + 1, none⟩ = some (.int .u64 block) ∧ W.cell? ⟨(ad.add (k * 6)).block, (ad.add (k * 6)).off + 2, none⟩ = some (.int .i64 cell) ∧ W.cell? ⟨(ad.add (k * 6)).block, (ad.add (k * 6)).off + 3, none⟩ = some (.int .u64 old) ∧ W.cell? ⟨(ad.add (k * 6)).block, (ad.add (k * 6)).off + 4, none⟩ = some (.int .u64 new) ∧ W.cell? ⟨(ad.add (k * 6)).block, (ad.add (k * 6)).off + 5, none⟩ = some (.string text)) ∧ W.cell? ⟨xb, 1, none⟩ = some (.bool (S1).locked) ∧ W.cell? ⟨xb, 2, none⟩ = some (.int .i64 (S1).faults)) (fun _ h => h) hHeld ?_; clear hq K; (try simp only [Act.put, List.setIfInBounds_toArray, List.set_cons_zero, List.set_cons_succ]))
        repeat (refine lex_take (v := ?_) rfl (by rfl) (by assumption) ?_ ?_; rotate_left 1; (focus (intro w hSw; (try dsimp only at hSw); go_simp; (try with_reducible rfl))); (try simp only [Act.put, List.setIfInBounds_toArray, List.set_cons_zero, List.set_cons_succ]))
        refine lex_end ?_
        refine hR.out _ _ ?_
        clear hR R
        go_wp2_with fail
        go_roundw
        case rel => exact ⟨⟨k + 1, S1, by omega, by go_num, q0.out, (hgrow.out _ _ _ hS1.out).1, (hgrow.out _ _ _ hS1.out).2.1, (hgrow.out _ _ _ hS1.out).2.2⟩⟩
        case measure => simp [intOf]; omega
      · have d1 : decide ((k : Int) < (len : Int)) = false := by simpa using hlt
        have hSn : S.sorted.length ≤ 1000000 := by rw [sorted_len]; omega
        have hB1 : ∀ W, DE w hb xb S S W → _ := fun W q => q.blocks (by omega)
        have hB2 : ∀ W, DE w hb xb S S W → _ := fun W q => q.rblocks (by omega)
        have hSa : ∀ (A1 A2 : Option Addr) (c1 c2 B : Nat) (W : World), B ≤ W.heap.size → Reads W B 1 A1 S.sorted.length (S.sorted.map (Value.int .u64)) → Reads W B 1 A2 S.sorted.length (S.sorted.map (Value.int .u64)) → _ := fun A1 A2 c1 c2 B W hB h1 h2 => samerows_any A1 A2 S.sorted.length c1 c2 S.sorted hSn B W hB h1 h2
        generalize S.sorted = xs at *
        replace hB1 := Lib.hid hB1
        replace hB2 := Lib.hid hB2
        replace hSa := Lib.hid hSa
        replace qA := Lib.hid qA
        go_wp2_with fail
        refine (hB1.out _ qA.out).mono ?_; rintro e w2 ⟨A2, c2, rfl, hr2, qB, _⟩
        replace qB := Lib.hid qB
        replace hr2 := Lib.hid hr2
        go_wp2_with fail
        refine (hB2.out _ qB.out).mono ?_; rintro e w3 ⟨A3, c3, rfl, hr3, qC, hb3⟩
        have hr2' := (hr2.out.below hb3).more hb3.size
        have hS3 := hSa.out A2 A3 c2 c3 _ w3 (Nat.le_refl _) hr2' hr3
        clear hr2 hr2' hr3 hb3
        replace qC := Lib.hid qC
        replace hS3 := Lib.hid hS3
        go_wp2_with fail
        refine (hS3.out).mono ?_; rintro e w4 ⟨rfl, hb4⟩
        have qD := (qC.out.keep hb4).below
        clear hb4 hS3
        replace qD := Lib.hid qD
        go_wp2_with fail
        refine (awake18 _).mono ?_; rintro e w8 ⟨rfl, hb8⟩
        go_wp2_with fail
        go_ret
        exact ⟨rfl, Below.next_ qD.out hb8⟩
end Go.Proofs.YtjoaifdjmdihoaaDoor
