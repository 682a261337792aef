/-
  The walk over the law of a heap's copy (layer 17). No condition.
-/
import Derived.Test.YtjoaifdjmdihoaaTrio
namespace Go.Proofs.Ytjoaifdjmdihoaa
set_option linter.unusedVariables false
open Go.ChangeShapes Go.WideShapes Go.ChangeAt Go.RowKit
open Go.ChangeMaps (setBlock)

theorem op6c_at {w : World} {B n : Nat} {A : Option Addr} {l : List PAct} (h : Reads w B 6 A n (opL l)) (hn : l.length = n) {k : Nat} (hk : k < n) :
    ∃ ad x, A = some ad ∧ ad.block < B ∧ l[k]? = some x ∧ ∀ W, Below B w W → (W.cell? (ad.add (k * 6)) = some (.int .i64 x.kind) ∧ W.cell? ⟨(ad.add (k * 6)).block, (ad.add (k * 6)).off + 1, none⟩ = some (.int .u64 x.block) ∧ W.cell? ⟨(ad.add (k * 6)).block, (ad.add (k * 6)).off + 2, none⟩ = some (.int .i64 x.cell) ∧
      W.cell? ⟨(ad.add (k * 6)).block, (ad.add (k * 6)).off + 3, none⟩ = some (.int .u64 x.old) ∧ W.cell? ⟨(ad.add (k * 6)).block, (ad.add (k * 6)).off + 4, none⟩ = some (.int .u64 x.new) ∧ W.cell? ⟨(ad.add (k * 6)).block, (ad.add (k * 6)).off + 5, none⟩ = some (.string x.text)) := by
  obtain ⟨ad, x, e, hb, hx, hc⟩ := Reads.fld (mk := fun x : PAct => [.int .i64 x.kind, .int .u64 x.block, .int .i64 x.cell, .int .u64 x.old, .int .u64 x.new, .string x.text]) (fun _ => rfl) h hk hn
  refine ⟨ad, x, e, hb, hx, fun W hW => ?_⟩
  have g0 : W.cell? (ad.add (k * 6)) = some (.int .i64 x.kind) := by
    have := hc 0 (.int .i64 x.kind) rfl
    rw [Nat.add_zero] at this
    exact keepc hW hb this
  have g : ∀ j v, [.int .i64 x.kind, .int .u64 x.block, .int .i64 x.cell, .int .u64 x.old, .int .u64 x.new, .string x.text][j]? = some v → 0 < j → W.cell? ⟨(ad.add (k * 6)).block, (ad.add (k * 6)).off + j, none⟩ = some v := by
    intro j v hv hj
    have e1 : (⟨(ad.add (k * 6)).block, (ad.add (k * 6)).off + j, none⟩ : Addr) = (ad.add (k * 6)).add j := by
      cases j with
      | zero => omega
      | succ j => rfl
    rw [e1, add_of_add]
    exact keepc hW hb (hc j v hv)
  exact ⟨g0, g 1 _ rfl (by omega), g 2 _ rfl (by omega), g 3 _ rfl (by omega), g 4 _ rfl (by omega), g 5 _ rfl (by omega)⟩
/-- Between two rounds. -/
structure Cp1 (w : World) (hb xb len : Nat) (i : Value) (wr : World) : Prop where
  ex : ∃ (k : Nat) (S : PHeap), k ≤ len ∧ i = .int .i64 k ∧ PE w hb xb S S wr ∧ S.last ≤ k ∧ S.faults ≤ k ∧ S.blocks.length ≤ k
structure Cp2 (w : World) (hb xb cb len : Nat) (U : PHeap) (i : Value) (wr : World) : Prop where
  ex : ∃ (k : Nat) (S : PHeap), k ≤ len ∧ i = .int .i64 k ∧ TE w hb xb cb S U U wr ∧ S.last ≤ 60 + k ∧ S.faults ≤ 60 + k
structure Cp3 (w : World) (cb xb len : Nat) (i : Value) (wr : World) : Prop where
  ex : ∃ (k : Nat) (S : PHeap), k ≤ len ∧ i = .int .i64 k ∧ PE w cb xb S S wr ∧ S.last ≤ 60 + k ∧ S.faults ≤ 60 + k ∧ S.blocks.length ≤ 60 + k
set_option maxRecDepth 100000 in
set_option maxHeartbeats 4000000 in
theorem walkCopies (A : Option Addr) (len cap : Nat) (l : List PAct) (hlen1 : l.length = len) (hok1 : ∀ x ∈ l, x.Ok) (hmax : len ≤ maxLen) (A2 : Option Addr) (len2 cap2 : Nat) (l2 : List PAct) (hlen2 : l2.length = len2) (hok2 : ∀ x ∈ l2, x.Ok) (hmax2 : len2 ≤ maxLen)
    (w : World) (hr : Reads w w.heap.size 6 A len (opL l)) (hr2 : Reads w w.heap.size 6 A2 len2 (opL l2)) :
    Calls Try.prog 3 #[.slice A len cap, .slice A2 len2 cap2] w fun e w' => e = .returned (.bool true) ∧ Below w.heap.size w w' := by
  have hFe := few_any A len cap l hlen1 hmax 60 w hr
  have hFe2 := few_any A2 len2 cap2 l2 hlen2 hmax2 60 w hr2
  replace hr := Lib.hid hr
  replace hr2 := Lib.hid hr2
  replace hFe := Lib.hid hFe
  replace hFe2 := Lib.hid hFe2
  go_enter Try.func3, Try.ntmps3
  go_wp2_with fail
  refine (hFe.out).mono ?_; rintro e w0 ⟨fb, rfl, hfb, rfl⟩
  clear hFe
  cases fb with
  | false =>
    replace hfb := Lib.hid hfb
    go_wp2_with fail
    refine (awake17 _).mono ?_; rintro e w7 ⟨rfl, hb7⟩
    go_wp2_with fail
    go_ret
    exact ⟨rfl, hb7⟩
  | true =>
    have hl60 : len ≤ 60 := by have := hfb rfl; omega
    clear hfb
    go_wp2_with fail
    refine (hFe2.out).mono ?_; rintro e w0 ⟨fb, rfl, hfb, rfl⟩
    clear hFe2
    cases fb with
    | false =>
      replace hfb := Lib.hid hfb
      go_wp2_with fail
      refine (awake17 _).mono ?_; rintro e w7 ⟨rfl, hb7⟩
      go_wp2_with fail
      go_ret
      exact ⟨rfl, hb7⟩
    | true =>
      have hl2 : len2 ≤ 60 := by have := hfb rfl; omega
      clear hfb
      go_wp2_with fail
      refine (new_sess _).mono ?_; rintro e w1 ⟨hb, rfl, s1⟩
      have q1 := PE.start s1
      replace s1 := Lib.hid s1
      replace q1 := Lib.hid q1
      go_wp2_with fail
      generalize hxb : w1.heap.size = xb at *
      replace hxb := Lib.hid hxb
      go_loopw [7] (fun i wr => Cp1 w hb xb len i wr) (fun i _ => len + 1 - (intOf i).toNat)
      case atStart => exact ⟨⟨0, _, by omega, rfl, q1.out, Int.le_refl _, Int.le_refl _, Nat.le_refl _⟩⟩
      case round =>
        obtain ⟨⟨k, S, hk, rfl, qA, hla, hfa, hbn⟩⟩ := hrel
        clear q1
        by_cases hlt : k < len
        · have d1 : decide ((k : Int) < (len : Int)) = true := by simpa using hlt
          obtain ⟨ad, x, rfl, hadb, hx, hK⟩ := op6c_at hr.out hlen1 hlt
          have hxo := hok1 x (List.mem_of_getElem? hx)
          have i1 : (0 : Int) ≤ (k : Int) := by omega
          have i2 : (k : Int) < (len : Int) := by omega
          have hg := step_grow S x
          have hS1 := qA.same1 x hxo (by omega) (by omega)
          obtain ⟨kind, block, cell, old, new, text⟩ := x
          simp only [opCs] at hS1 hK
          obtain ⟨sA0, sA1, sA2, sA3, sA4, sA5⟩ := hK wr qA.below
          generalize PHeap.step S ⟨kind, block, cell, old, new, text⟩ = St at *
          replace hS1 := Lib.hid hS1
          replace hg := Lib.hid hg
          replace hx := Lib.hid hx
          replace hxo := Lib.hid hxo
          replace hla := Lib.hid hla
          replace hfa := Lib.hid hfa
          replace hbn := Lib.hid hbn
          replace hadb := Lib.hid hadb
          clear hK qA
          go_wp2_with fail
          refine (hS1.out).mono ?_; rintro e w2 ⟨rfl, r1, qB⟩
          have hg1 := hg.out r1
          have b1 : (St r1).last ≤ ((k + 1 : Nat) : Int) ∧ (St r1).faults ≤ ((k + 1 : Nat) : Int) ∧ (St r1).blocks.length ≤ k + 1 := by
            have h1 := hla.out
            have h2 := hfa.out
            have h3 := hbn.out
            refine ⟨?_, ?_, ?_⟩ <;> omega
          clear sA0 sA1 sA2 sA3 sA4 sA5 hg hg1 hS1
          replace qB := Lib.hid qB
          replace b1 := Lib.hid b1
          go_wp2_with fail
          go_roundw
          case rel => exact ⟨⟨k + 1, St r1, by omega, by go_num, qB.out, b1.out.1, b1.out.2.1, b1.out.2.2⟩⟩
          case measure => simp [intOf]; omega
        · have d1 : decide ((k : Int) < (len : Int)) = false := by simpa using hlt
          have hCp := qA.copy
          have hS60 : S.last ≤ 60 ∧ S.faults ≤ 60 ∧ S.blocks.length ≤ 60 := ⟨by omega, by omega, by omega⟩
          replace hCp := Lib.hid hCp
          replace hS60 := Lib.hid hS60
          clear qA hla hfa hbn
          go_wp2_with fail
          refine (hCp.out).mono ?_; rintro e w2 ⟨cb, U, rfl, qB, hal⟩
          clear hCp
          have hU60 : U.last ≤ 60 ∧ U.faults ≤ 60 ∧ U.blocks.length ≤ 60 := by
            have h1 := hal.blocks.length_eq
            simp only [List.length_map] at h1
            rw [hal.last, hal.faults, h1]
            exact hS60.out
          replace qB := Lib.hid qB
          replace hal := Lib.hid hal
          replace hU60 := Lib.hid hU60
          go_wp2_with fail
          go_loopw [9] (fun i wr => Cp2 w hb xb cb len2 U i wr) (fun i _ => len2 + 1 - (intOf i).toNat)
          case atStart => exact ⟨⟨0, S, by omega, rfl, qB.out, by have := hS60.out.1; omega, by have := hS60.out.2.1; omega⟩⟩
          case round =>
            clear qB hS60
            obtain ⟨⟨k2, S2, hk2, rfl, qA, hla, hfa⟩⟩ := hrel
            by_cases hlt2 : k2 < len2
            · have d2 : decide ((k2 : Int) < (len2 : Int)) = true := by simpa using hlt2
              obtain ⟨ad, x, rfl, hadb, hx, hK⟩ := op6c_at hr2.out hlen2 hlt2
              have hxo := hok2 x (List.mem_of_getElem? hx)
              have i1 : (0 : Int) ≤ (k2 : Int) := by omega
              have i2 : (k2 : Int) < (len2 : Int) := by omega
              have hg := step_grow S2 x
              have hS1 := qA.loose x hxo (by omega) (by omega)
              obtain ⟨kind, block, cell, old, new, text⟩ := x
              simp only [opCs] at hS1 hK
              obtain ⟨sA0, sA1, sA2, sA3, sA4, sA5⟩ := hK _ (Below.more_ qA.below (.cells #[.slice none 0 0, .bool false, .int .i64 0] 30))
              generalize PHeap.step S2 ⟨kind, block, cell, old, new, text⟩ = St at *
              replace hS1 := Lib.hid hS1
              replace hg := Lib.hid hg
              replace hx := Lib.hid hx
              replace hxo := Lib.hid hxo
              replace hla := Lib.hid hla
              replace hfa := Lib.hid hfa
              replace hadb := Lib.hid hadb
              clear hK qA
              go_wp2_with fail
              refine (hS1.out).mono ?_; rintro e w3 ⟨qq, rfl, r1, qB⟩
              have hg1 := hg.out r1
              have b1 : (St r1).last ≤ 60 + ((k2 + 1 : Nat) : Int) ∧ (St r1).faults ≤ 60 + ((k2 + 1 : Nat) : Int) := by
                have h1 := hla.out
                have h2 := hfa.out
                refine ⟨?_, ?_⟩ <;> omega
              clear sA0 sA1 sA2 sA3 sA4 sA5 hg hg1 hS1
              replace qB := Lib.hid qB
              replace b1 := Lib.hid b1
              go_wp2_with fail
              go_roundw
              case rel => exact ⟨⟨k2 + 1, St r1, by omega, by go_num, qB.out, b1.out.1, b1.out.2⟩⟩
              case measure => simp [intOf]; omega
            · have d2 : decide ((k2 : Int) < (len2 : Int)) = false := by simpa using hlt2
              have q3 := qA.rest
              replace q3 := Lib.hid q3
              clear qA hla hfa
              go_wp2_with fail
              go_loopw [10] (fun i wr => Cp3 w cb xb len2 i wr) (fun i _ => len2 + 1 - (intOf i).toNat)
              case atStart => exact ⟨⟨0, U, by omega, rfl, q3.out, by have := hU60.out.1; omega, by have := hU60.out.2.1; omega, by have := hU60.out.2.2; omega⟩⟩
              case round =>
                clear q3 hU60
                obtain ⟨⟨k3, V, hk3, rfl, qA, hla, hfa, hbn⟩⟩ := hrel
                by_cases hlt3 : k3 < len2
                · have d3 : decide ((k3 : Int) < (len2 : Int)) = true := by simpa using hlt3
                  obtain ⟨ad, x, rfl, hadb, hx, hK⟩ := op6c_at hr2.out hlen2 hlt3
                  have hxo := hok2 x (List.mem_of_getElem? hx)
                  have i1 : (0 : Int) ≤ (k3 : Int) := by omega
                  have i2 : (k3 : Int) < (len2 : Int) := by omega
                  have hg := step_grow V x
                  have hS1 := qA.same1 x hxo (by omega) (by omega)
                  obtain ⟨kind, block, cell, old, new, text⟩ := x
                  simp only [opCs] at hS1 hK
                  obtain ⟨sA0, sA1, sA2, sA3, sA4, sA5⟩ := hK wr qA.below
                  generalize PHeap.step V ⟨kind, block, cell, old, new, text⟩ = St at *
                  replace hS1 := Lib.hid hS1
                  replace hg := Lib.hid hg
                  replace hx := Lib.hid hx
                  replace hxo := Lib.hid hxo
                  replace hla := Lib.hid hla
                  replace hfa := Lib.hid hfa
                  replace hbn := Lib.hid hbn
                  replace hadb := Lib.hid hadb
                  clear hK qA
                  go_wp2_with fail
                  refine (hS1.out).mono ?_; rintro e w3 ⟨rfl, r1, qB⟩
                  have hg1 := hg.out r1
                  have b1 : (St r1).last ≤ 60 + ((k3 + 1 : Nat) : Int) ∧ (St r1).faults ≤ 60 + ((k3 + 1 : Nat) : Int) ∧ (St r1).blocks.length ≤ 60 + (k3 + 1) := by
                    have h1 := hla.out
                    have h2 := hfa.out
                    have h3 := hbn.out
                    refine ⟨?_, ?_, ?_⟩ <;> omega
                  clear sA0 sA1 sA2 sA3 sA4 sA5 hg hg1 hS1
                  replace qB := Lib.hid qB
                  replace b1 := Lib.hid b1
                  go_wp2_with fail
                  go_roundw
                  case rel => exact ⟨⟨k3 + 1, St r1, by omega, by go_num, qB.out, b1.out.1, b1.out.2.1, b1.out.2.2⟩⟩
                  case measure => simp [intOf]; omega
                · have d3 : decide ((k3 : Int) < (len2 : Int)) = false := by simpa using hlt3
                  have hFa := fun W (q : PE w cb xb V V W) => q.faults
                  have hB1 := fun W (q : PE w cb xb V V W) => q.blocks (by omega)
                  have hB2 := fun W (q : PE w cb xb V V W) => q.rblocks (by omega)
                  have hSn : V.sorted.length ≤ 1000000 := by rw [sorted_len]; omega
                  have hSa : ∀ (A1 A2 : Option Addr) (c1 c2 B : Nat) (W : World), B ≤ W.heap.size → Reads W B 1 A1 V.sorted.length (V.sorted.map (Value.int .u64)) → Reads W B 1 A2 V.sorted.length (V.sorted.map (Value.int .u64)) → _ := fun A1 A2 c1 c2 B W hB h1 h2 => samerows_any A1 A2 V.sorted.length c1 c2 V.sorted hSn B W hB h1 h2
                  generalize V.sorted = xs at *
                  replace hFa := Lib.hid hFa
                  replace hB1 := Lib.hid hB1
                  replace hB2 := Lib.hid hB2
                  replace hSa := Lib.hid hSa
                  replace qA := Lib.hid qA
                  clear hla hfa hbn
                  go_upto_region 20 with fail
                  refine wp_region_lex [(true, 0), (true, 2), (true, 3), (true, 4), (true, 5), (false, 1), (true, 6), (true, 7), (true, 8), (true, 10), (false, 9), (false, 11), (false, 12), (true, 13), (true, 14), (false, 15), (true, 16), (true, 17)] (fun W : World => W.cell? ⟨xb, 2, none⟩ = some (.int .i64 V.faults)) (by kernel_rfl) (by kernel_rfl) (fun R hR => ?_)
                  have hHeld : (fun W : World => W.cell? ⟨xb, 2, none⟩ = some (.int .i64 V.faults)) wr.drew := qA.out.drew.cells
                  have q0 := qA.out.drew
                  replace q0 := Lib.hid q0
                  clear qA
                  repeat (refine lex_take (v := ?_) rfl (by rfl) (by assumption) ?_ ?_; rotate_left 1; (focus (intro w hSw; (try dsimp only at hSw); go_simp; (try with_reducible rfl))); (try simp only [Act.put, List.setIfInBounds_toArray, List.set_cons_zero, List.set_cons_succ]))
                  (refine lex_call rfl (by rfl) (fun K hq => ?_); go_simp)
                  go_at_call 12
                  refine (hFa.out _ q0.out).mono ?_; rintro e w4 ⟨rfl, rfl⟩
                  go_wp2_with fail
                  (refine hq.out _ _ (fun W : World => W.cell? ⟨xb, 2, none⟩ = some (.int .i64 V.faults)) (fun _ h => h) hHeld ?_; clear hq K; (try simp only [Act.put, List.setIfInBounds_toArray, List.set_cons_zero, List.set_cons_succ]))
                  repeat (refine lex_take (v := ?_) rfl (by rfl) (by assumption) ?_ ?_; rotate_left 1; (focus (intro w hSw; (try dsimp only at hSw); go_simp; (try with_reducible rfl))); (try simp only [Act.put, List.setIfInBounds_toArray, List.set_cons_zero, List.set_cons_succ]))
                  (refine lex_call rfl (by rfl) (fun K hq => ?_); go_simp)
                  go_at_call 14
                  refine (hB1.out _ q0.out).mono ?_; rintro e w4 ⟨A4, c4, rfl, hr4, q4, hb4⟩
                  clear hHeld
                  have hHeld : (fun W : World => W.cell? ⟨xb, 2, none⟩ = some (.int .i64 V.faults)) w4 := q4.cells
                  replace q4 := Lib.hid q4
                  replace hr4 := Lib.hid hr4
                  clear hb4 q0
                  go_wp2_with fail
                  (refine hq.out _ _ (fun W : World => W.cell? ⟨xb, 2, none⟩ = some (.int .i64 V.faults)) (fun _ h => h) hHeld ?_; clear hq K; (try simp only [Act.put, List.setIfInBounds_toArray, List.set_cons_zero, List.set_cons_succ]))
                  (refine lex_call rfl (by rfl) (fun K hq => ?_); go_simp)
                  go_at_call 15
                  refine (hB2.out _ q4.out).mono ?_; rintro e w5 ⟨A5, c5, rfl, hr5, q5, hb5⟩
                  have hr4' := (hr4.out.below hb5).more hb5.size
                  have hS5 := hSa.out A4 A5 c4 c5 _ w5 (Nat.le_refl _) hr4' hr5
                  clear hHeld
                  have hHeld : (fun W : World => W.cell? ⟨xb, 2, none⟩ = some (.int .i64 V.faults)) w5 := q5.cells
                  clear hr4 hr4' hr5 hb5 q4
                  replace q5 := Lib.hid q5
                  replace hS5 := Lib.hid hS5
                  go_wp2_with fail
                  (refine hq.out _ _ (fun W : World => W.cell? ⟨xb, 2, none⟩ = some (.int .i64 V.faults)) (fun _ h => h) hHeld ?_; clear hq K; (try simp only [Act.put, List.setIfInBounds_toArray, List.set_cons_zero, List.set_cons_succ]))
                  (refine lex_call rfl (by rfl) (fun K hq => ?_); go_simp)
                  go_at_call 13
                  refine (hS5.out).mono ?_; rintro e w6 ⟨rfl, hb6⟩
                  have q6 := q5.out.keep hb6
                  clear hHeld
                  have hHeld : (fun W : World => W.cell? ⟨xb, 2, none⟩ = some (.int .i64 V.faults)) w6 := q6.cells
                  clear hb6 hS5 q5
                  replace q6 := Lib.hid q6
                  go_wp2_with fail
                  (refine hq.out _ _ (fun W : World => W.cell? ⟨xb, 2, none⟩ = some (.int .i64 V.faults)) (fun _ h => h) hHeld ?_; clear hq K; (try simp only [Act.put, List.setIfInBounds_toArray, List.set_cons_zero, List.set_cons_succ]))
                  repeat (refine lex_take (v := ?_) rfl (by rfl) (by assumption) ?_ ?_; rotate_left 1; (focus (intro w hSw; (try dsimp only at hSw); go_simp; (try with_reducible rfl))); (try simp only [Act.put, List.setIfInBounds_toArray, List.set_cons_zero, List.set_cons_succ]))
                  (refine lex_call rfl (by rfl) (fun K hq => ?_); go_simp)
                  go_at_call 8
                  refine (awake17 _).mono ?_; rintro e w8 ⟨rfl, hb8⟩
                  have q8 := q6.out.keep hb8
                  clear hHeld
                  have hHeld : (fun W : World => W.cell? ⟨xb, 2, none⟩ = some (.int .i64 V.faults)) w8 := q8.cells
                  clear hb8 q6
                  replace q8 := Lib.hid q8
                  go_wp2_with fail
                  (refine hq.out _ _ (fun W : World => W.cell? ⟨xb, 2, none⟩ = some (.int .i64 V.faults)) (fun _ h => h) hHeld ?_; clear hq K; (try simp only [Act.put, List.setIfInBounds_toArray, List.set_cons_zero, List.set_cons_succ]))
                  repeat (refine lex_take (v := ?_) rfl (by rfl) (by assumption) ?_ ?_; rotate_left 1; (focus (intro w hSw; (try dsimp only at hSw); go_simp; (try with_reducible rfl))); (try simp only [Act.put, List.setIfInBounds_toArray, List.set_cons_zero, List.set_cons_succ]))
                  refine lex_end ?_
                  refine hR.out _ _ ?_
                  clear hR R hHeld
                  go_wp2_with fail
                  go_ret
                  exact ⟨rfl, q8.out.below⟩
end Go.Proofs.Ytjoaifdjmdihoaa
