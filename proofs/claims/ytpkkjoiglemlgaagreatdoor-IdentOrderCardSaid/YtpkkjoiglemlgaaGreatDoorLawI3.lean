/-
  The walk of IdentOrder (layer 12). Where the sentinels, errors.errorType, the table of powers and strconv.ErrRange lie. (Printed by tools/i2.py.)
-/
import Derived.Test.YtpkkjoiglemlgaaGreatDoorLawI2
import Derived.Test.YtpkkjoiglemlgaaGreatDoorLexH
import Derived.Deep.Cut
namespace Go.Proofs.YtpkkjoiglemlgaaGreatDoor
set_option linter.unusedVariables false
open Go.ChangeShapes Go.WideShapes Go.ChangeAt Go.RowKit Go.Extern.Stop Go.Stop Go.Extern

set_option maxHeartbeats 8000000 in
set_option maxRecDepth 100000 in
theorem identOrder_any {w : World} {sv : Nat → Addr} (S : Sent w sv) (T : ETy w) (htab : PTb w) (hR : RgV w) (x y x2 y2 x3 y3 : Int) (hx : idOk (x, y)) (hy : idOk (x2, y2)) :
    Calls Tryz.prog 4 #[.agg #[.int .i64 x, .int .i64 y], .agg #[.int .i64 x2, .int .i64 y2], .agg #[.int .i64 x3, .int .i64 y3]] w fun e w' => e = .returned (.bool true) ∧ Below w.heap.size w w' := by
  have hx' : i64ok (x, y) := ⟨⟨hx.1.1, hx.1.2⟩, hx.2.1, hx.2.2⟩
  have hy' : i64ok (x2, y2) := ⟨⟨hy.1.1, hy.1.2⟩, hy.2.1, hy.2.2⟩
  have hAw := fun W (h : Below w.heap.size w W) => awake12_any (S.below h) (T.below h) (htab.below h)
  have hPa := fun W (h : Below w.heap.size w W) => idPrint_any (htab.below h) x y hx.1.1 hx.1.2 hx.2.1 hx.2.2
  have hPb := fun W (h : Below w.heap.size w W) => idPrint_any (htab.below h) x2 y2 hy.1.1 hy.1.2 hy.2.1 hy.2.2
  have hPs := fun W (h : Below w.heap.size w W) => idParse_any (S.below h) (T.below h) (hR.below h) (bs (iText (x, y))) (by have := iText_len hx'; rw [← size_list_, list_bs]; omega)
  rw [list_bs] at hPs
  have hright : idRight (x, y) = true → pId (iText (x, y)) = ((x, y), 0, 0, -1) := fun h => pId_right (x, y) hx' ((idRight_iff _).1 h)
  have hwrong : idRight (x, y) = false → (pId (iText (x, y))).2.1 = 4 := fun h => pId_wrong (x, y) hx' (fun h2 => by rw [(idRight_iff _).2 h2] at h; cases h)
  have hinj : (x, y) ≠ (x2, y2) → bs (iText (x, y)) ≠ bs (iText (x2, y2)) := fun h h2 => h (iText_inj hx' hy' (by
    have := congrArg (fun s : ByteArray => s.data.toList) h2
    rwa [list_bs, list_bs] at this))
  rw [show strL (iText (x, y)) = .string (bs (iText (x, y))) from rfl] at hPa
  rw [show strL (iText (x2, y2)) = .string (bs (iText (x2, y2))) from rfl] at hPb
  have hRx := fun W => idRight_any W x y
  have hAB := fun W => before_any x y x2 y2 W
  have hBA := fun W => before_any x2 y2 x y W
  have hBC := fun W => before_any x2 y2 x3 y3 W
  have hAC := fun W => before_any x y x3 y3 W
  have heq : (x, y) = (x2, y2) → bs (iText (x, y)) = bs (iText (x2, y2)) := fun h => by rw [h]
  generalize hrx : idRight (x, y) = rx at *
  generalize pId (iText (x, y)) = P at *
  generalize bs (iText (x, y)) = TX at *
  generalize bs (iText (x2, y2)) = TY at *
  have o1 := fun h : (x, y) ≠ (x2, y2) => idLt_total h
  have o2 := idLt_asym (p := (x, y)) (q := (x2, y2))
  have o3 := idLt_trans (p := (x, y)) (q := (x2, y2)) (r := (x3, y3))
  have o4 := idLt_self (x, y)
  have hd3 : Below w.heap.size w (((w.alloc (.cells #[.int .i64 x, .int .i64 y] 23)).alloc (.cells #[.int .i64 x2, .int .i64 y2] 23)).alloc (.cells #[.int .i64 x3, .int .i64 y3] 23)) := (((Below.refl _ _).alloc (Nat.le_refl _) _).alloc (by simp) _).alloc (by simp; omega) _
  have L0 : Lay2 w sv [(w.heap.size, (x, y)), (w.heap.size + 1, (x2, y2)), (w.heap.size + 2, (x3, y3))] .nilIface [] 0 (((w.alloc (.cells #[.int .i64 x, .int .i64 y] 23)).alloc (.cells #[.int .i64 x2, .int .i64 y2] 23)).alloc (.cells #[.int .i64 x3, .int .i64 y3] 23)) := by
    have h0 : Lay2 w sv [] .nilIface [] 0 w := ⟨Below.refl _ _, fun b p h => by simp at h, .inl ⟨rfl, rfl⟩⟩
    have h1 := ((h0.add x y).add x2 y2).add x3 y3
    refine ⟨h1.below, fun b p hm => h1.blk b p ?_, h1.err⟩
    simp only [World.size_alloc, List.mem_cons, List.not_mem_nil, or_false] at hm ⊢
    rcases hm with h | h | h
    · exact .inr (.inr h)
    · exact .inr (.inl h)
    · exact .inl h
  replace hAw := Lib.hid hAw
  replace hPa := Lib.hid hPa
  replace hPb := Lib.hid hPb
  replace hPs := Lib.hid hPs
  replace hrx := Lib.hid hrx
  replace hd3 := Lib.hid hd3
  replace L0 := Lib.hid L0
  clear S T htab hR hx hy hx' hy'
  by_cases hxy : (x, y) = (x2, y2)
  · have hT := heq hxy
    subst hT
    injection hxy with e1 e2
    subst e1 e2
    rw [o4] at hAB hBA
    clear o1 o2 o3 o4 hinj heq hBC hAC
    replace hAB := Lib.hid hAB
    replace hBA := Lib.hid hBA
    cases rx
    · have hP4 := Lib.hid (hwrong rfl)
      clear hwrong hright
      replace hRx := Lib.hid hRx
      go_enter Tryz.func4, Tryz.ntmps4
      go_upto_region 1 with fail
      refine wp_region_lex [(true, 0), (true, 1), (true, 2), (true, 3), (true, 4), (false, 5), (true, 6), (true, 7), (true, 8), (true, 9), (false, 10), (true, 11), (true, 12), (true, 13), (true, 14), (true, 15), (true, 16), (false, 17), (true, 18), (true, 19), (true, 20), (false, 21), (true, 22), (true, 23), (true, 24), (true, 25), (true, 26), (false, 27), (true, 28), (true, 29), (true, 30), (false, 31), (true, 32), (true, 33), (true, 34), (true, 35), (false, 36), (true, 37), (true, 38), (true, 39)] (fun W : World => (W.cell? ⟨w.heap.size, 0, none⟩ = some (.int .i64 x) ∧ W.cell? ⟨w.heap.size, 1, none⟩ = some (.int .i64 y)) ∧ (W.cell? ⟨(w.heap.size + 1), 0, none⟩ = some (.int .i64 x) ∧ W.cell? ⟨(w.heap.size + 1), 1, none⟩ = some (.int .i64 y)) ∧ (W.cell? ⟨(w.heap.size + 2), 0, none⟩ = some (.int .i64 x3) ∧ W.cell? ⟨(w.heap.size + 2), 1, none⟩ = some (.int .i64 y3))) (by kernel_rfl) (by kernel_rfl) (fun R hR => ?_)
      have q0 := (L0.out).drew
      have hHeld : (fun W : World => (W.cell? ⟨w.heap.size, 0, none⟩ = some (.int .i64 x) ∧ W.cell? ⟨w.heap.size, 1, none⟩ = some (.int .i64 y)) ∧ (W.cell? ⟨(w.heap.size + 1), 0, none⟩ = some (.int .i64 x) ∧ W.cell? ⟨(w.heap.size + 1), 1, none⟩ = some (.int .i64 y)) ∧ (W.cell? ⟨(w.heap.size + 2), 0, none⟩ = some (.int .i64 x3) ∧ W.cell? ⟨(w.heap.size + 2), 1, none⟩ = some (.int .i64 y3))) _ := ⟨q0.cells (b := w.heap.size) (p := (x, y)) (by simp), q0.cells (b := (w.heap.size + 1)) (p := (x, y)) (by simp), q0.cells (b := (w.heap.size + 2)) (p := (x3, y3)) (by simp)⟩
      replace q0 := Lib.hid q0
      repeat (first | (refine lex_take (v := ?_) rfl (by rfl) (by assumption) ?_ ?_; rotate_left 1; (focus (intro w hSw; (try dsimp only at hSw); go_simp; (try with_reducible rfl))); (try simp only [Act.put, List.setIfInBounds_toArray, List.set_cons_zero, List.set_cons_succ])) | (refine lex_pass rfl (by rfl) (by assumption) ?_; (try simp only [Act.put, List.setIfInBounds_toArray, List.set_cons_zero, List.set_cons_succ])))
      (refine lex_call rfl (by rfl) (fun K hq => ?_); go_simp)
      go_at_call 13
      refine (hAB.out _).mono ?_; rintro e v1 ⟨rfl, hb1⟩
      have q1 := Lay2.next q0.out hb1
      clear hHeld hb1 q0
      have hHeld : (fun W : World => (W.cell? ⟨w.heap.size, 0, none⟩ = some (.int .i64 x) ∧ W.cell? ⟨w.heap.size, 1, none⟩ = some (.int .i64 y)) ∧ (W.cell? ⟨(w.heap.size + 1), 0, none⟩ = some (.int .i64 x) ∧ W.cell? ⟨(w.heap.size + 1), 1, none⟩ = some (.int .i64 y)) ∧ (W.cell? ⟨(w.heap.size + 2), 0, none⟩ = some (.int .i64 x3) ∧ W.cell? ⟨(w.heap.size + 2), 1, none⟩ = some (.int .i64 y3))) v1 := ⟨q1.cells (b := w.heap.size) (p := (x, y)) (by simp), q1.cells (b := (w.heap.size + 1)) (p := (x, y)) (by simp), q1.cells (b := (w.heap.size + 2)) (p := (x3, y3)) (by simp)⟩
      replace q1 := Lib.hid q1
      go_wp2_with fail
      (refine hq.out _ _ (fun W : World => (W.cell? ⟨w.heap.size, 0, none⟩ = some (.int .i64 x) ∧ W.cell? ⟨w.heap.size, 1, none⟩ = some (.int .i64 y)) ∧ (W.cell? ⟨(w.heap.size + 1), 0, none⟩ = some (.int .i64 x) ∧ W.cell? ⟨(w.heap.size + 1), 1, none⟩ = some (.int .i64 y)) ∧ (W.cell? ⟨(w.heap.size + 2), 0, none⟩ = some (.int .i64 x3) ∧ W.cell? ⟨(w.heap.size + 2), 1, none⟩ = some (.int .i64 y3))) (fun _ h => h) hHeld ?_; clear hq K; (try simp only [Act.put, List.setIfInBounds_toArray, List.set_cons_zero, List.set_cons_succ]))
      repeat (first | (refine lex_take (v := ?_) rfl (by rfl) (by assumption) ?_ ?_; rotate_left 1; (focus (intro w hSw; (try dsimp only at hSw); go_simp; (try with_reducible rfl))); (try simp only [Act.put, List.setIfInBounds_toArray, List.set_cons_zero, List.set_cons_succ])) | (refine lex_pass rfl (by rfl) (by assumption) ?_; (try simp only [Act.put, List.setIfInBounds_toArray, List.set_cons_zero, List.set_cons_succ])))
      (refine lex_call rfl (by rfl) (fun K hq => ?_); go_simp)
      go_at_call 13
      refine (hBA.out _).mono ?_; rintro e v2 ⟨rfl, hb2⟩
      have q2 := Lay2.next q1.out hb2
      clear hHeld hb2 q1
      have hHeld : (fun W : World => (W.cell? ⟨w.heap.size, 0, none⟩ = some (.int .i64 x) ∧ W.cell? ⟨w.heap.size, 1, none⟩ = some (.int .i64 y)) ∧ (W.cell? ⟨(w.heap.size + 1), 0, none⟩ = some (.int .i64 x) ∧ W.cell? ⟨(w.heap.size + 1), 1, none⟩ = some (.int .i64 y)) ∧ (W.cell? ⟨(w.heap.size + 2), 0, none⟩ = some (.int .i64 x3) ∧ W.cell? ⟨(w.heap.size + 2), 1, none⟩ = some (.int .i64 y3))) v2 := ⟨q2.cells (b := w.heap.size) (p := (x, y)) (by simp), q2.cells (b := (w.heap.size + 1)) (p := (x, y)) (by simp), q2.cells (b := (w.heap.size + 2)) (p := (x3, y3)) (by simp)⟩
      replace q2 := Lib.hid q2
      go_wp2_with fail
      (refine hq.out _ _ (fun W : World => (W.cell? ⟨w.heap.size, 0, none⟩ = some (.int .i64 x) ∧ W.cell? ⟨w.heap.size, 1, none⟩ = some (.int .i64 y)) ∧ (W.cell? ⟨(w.heap.size + 1), 0, none⟩ = some (.int .i64 x) ∧ W.cell? ⟨(w.heap.size + 1), 1, none⟩ = some (.int .i64 y)) ∧ (W.cell? ⟨(w.heap.size + 2), 0, none⟩ = some (.int .i64 x3) ∧ W.cell? ⟨(w.heap.size + 2), 1, none⟩ = some (.int .i64 y3))) (fun _ h => h) hHeld ?_; clear hq K; (try simp only [Act.put, List.setIfInBounds_toArray, List.set_cons_zero, List.set_cons_succ]))
      repeat (first | (refine lex_take (v := ?_) rfl (by rfl) (by assumption) ?_ ?_; rotate_left 1; (focus (intro w hSw; (try dsimp only at hSw); go_simp; (try with_reducible rfl))); (try simp only [Act.put, List.setIfInBounds_toArray, List.set_cons_zero, List.set_cons_succ])) | (refine lex_pass rfl (by rfl) (by assumption) ?_; (try simp only [Act.put, List.setIfInBounds_toArray, List.set_cons_zero, List.set_cons_succ])))
      (refine lex_call rfl (by rfl) (fun K hq => ?_); go_simp)
      go_at_call 13
      refine (hAB.out _).mono ?_; rintro e v3 ⟨rfl, hb3⟩
      have q3 := Lay2.next q2.out hb3
      clear hHeld hb3 q2
      have hHeld : (fun W : World => (W.cell? ⟨w.heap.size, 0, none⟩ = some (.int .i64 x) ∧ W.cell? ⟨w.heap.size, 1, none⟩ = some (.int .i64 y)) ∧ (W.cell? ⟨(w.heap.size + 1), 0, none⟩ = some (.int .i64 x) ∧ W.cell? ⟨(w.heap.size + 1), 1, none⟩ = some (.int .i64 y)) ∧ (W.cell? ⟨(w.heap.size + 2), 0, none⟩ = some (.int .i64 x3) ∧ W.cell? ⟨(w.heap.size + 2), 1, none⟩ = some (.int .i64 y3))) v3 := ⟨q3.cells (b := w.heap.size) (p := (x, y)) (by simp), q3.cells (b := (w.heap.size + 1)) (p := (x, y)) (by simp), q3.cells (b := (w.heap.size + 2)) (p := (x3, y3)) (by simp)⟩
      replace q3 := Lib.hid q3
      go_wp2_with fail
      (refine hq.out _ _ (fun W : World => (W.cell? ⟨w.heap.size, 0, none⟩ = some (.int .i64 x) ∧ W.cell? ⟨w.heap.size, 1, none⟩ = some (.int .i64 y)) ∧ (W.cell? ⟨(w.heap.size + 1), 0, none⟩ = some (.int .i64 x) ∧ W.cell? ⟨(w.heap.size + 1), 1, none⟩ = some (.int .i64 y)) ∧ (W.cell? ⟨(w.heap.size + 2), 0, none⟩ = some (.int .i64 x3) ∧ W.cell? ⟨(w.heap.size + 2), 1, none⟩ = some (.int .i64 y3))) (fun _ h => h) hHeld ?_; clear hq K; (try simp only [Act.put, List.setIfInBounds_toArray, List.set_cons_zero, List.set_cons_succ]))
      repeat (first | (refine lex_take (v := ?_) rfl (by rfl) (by assumption) ?_ ?_; rotate_left 1; (focus (intro w hSw; (try dsimp only at hSw); go_simp; (try with_reducible rfl))); (try simp only [Act.put, List.setIfInBounds_toArray, List.set_cons_zero, List.set_cons_succ])) | (refine lex_pass rfl (by rfl) (by assumption) ?_; (try simp only [Act.put, List.setIfInBounds_toArray, List.set_cons_zero, List.set_cons_succ])))
      (refine lex_call rfl (by rfl) (fun K hq => ?_); go_simp)
      go_at_call 13
      refine (hAB.out _).mono ?_; rintro e v4 ⟨rfl, hb4⟩
      have q4 := Lay2.next q3.out hb4
      clear hHeld hb4 q3
      have hHeld : (fun W : World => (W.cell? ⟨w.heap.size, 0, none⟩ = some (.int .i64 x) ∧ W.cell? ⟨w.heap.size, 1, none⟩ = some (.int .i64 y)) ∧ (W.cell? ⟨(w.heap.size + 1), 0, none⟩ = some (.int .i64 x) ∧ W.cell? ⟨(w.heap.size + 1), 1, none⟩ = some (.int .i64 y)) ∧ (W.cell? ⟨(w.heap.size + 2), 0, none⟩ = some (.int .i64 x3) ∧ W.cell? ⟨(w.heap.size + 2), 1, none⟩ = some (.int .i64 y3))) v4 := ⟨q4.cells (b := w.heap.size) (p := (x, y)) (by simp), q4.cells (b := (w.heap.size + 1)) (p := (x, y)) (by simp), q4.cells (b := (w.heap.size + 2)) (p := (x3, y3)) (by simp)⟩
      replace q4 := Lib.hid q4
      go_wp2_with fail
      (refine hq.out _ _ (fun W : World => (W.cell? ⟨w.heap.size, 0, none⟩ = some (.int .i64 x) ∧ W.cell? ⟨w.heap.size, 1, none⟩ = some (.int .i64 y)) ∧ (W.cell? ⟨(w.heap.size + 1), 0, none⟩ = some (.int .i64 x) ∧ W.cell? ⟨(w.heap.size + 1), 1, none⟩ = some (.int .i64 y)) ∧ (W.cell? ⟨(w.heap.size + 2), 0, none⟩ = some (.int .i64 x3) ∧ W.cell? ⟨(w.heap.size + 2), 1, none⟩ = some (.int .i64 y3))) (fun _ h => h) hHeld ?_; clear hq K; (try simp only [Act.put, List.setIfInBounds_toArray, List.set_cons_zero, List.set_cons_succ]))
      repeat (first | (refine lex_take (v := ?_) rfl (by rfl) (by assumption) ?_ ?_; rotate_left 1; (focus (intro w hSw; (try dsimp only at hSw); go_simp; (try with_reducible rfl))); (try simp only [Act.put, List.setIfInBounds_toArray, List.set_cons_zero, List.set_cons_succ])) | (refine lex_pass rfl (by rfl) (by assumption) ?_; (try simp only [Act.put, List.setIfInBounds_toArray, List.set_cons_zero, List.set_cons_succ])))
      refine lex_end ?_
      refine hR.out _ _ ?_
      clear hR R
      have L1 := q4
      clear q4
      go_upto_region 3 with fail
      obtain ⟨x0, x1⟩ := L1.out.cells (b := w.heap.size) (p := (x, y)) (by simp)
      go_wp2_with fail
      refine (hPa.out _ L1.out.below).mono ?_; rintro e w2 ⟨rfl, hb⟩
      have L2 := L1.out.next hb
      replace L2 := Lib.hid L2
      clear hb x0 x1
      go_wp2_with fail
      refine (hPs.out _ L2.out.below).mono ?_; rintro e w3 ⟨v, rfl, hv, hb⟩
      have L3 := L2.out.next hb
      clear hb
      obtain ⟨_, hv3, _⟩ := hv.resolve_left (fun h => by have h1 := h.1; rw [hP4.out] at h1; exact absurd h1 (by decide))
      obtain ⟨ty, u, rfl⟩ := hv3.iface
      clear hv hv3
      replace L3 := Lib.hid L3
      go_upto_region 4 with fail
      refine worldI (α := fun W' => Code.wp _ _ _ _ W') (Lay2 w sv ((w3.heap.size, (P.1.1, P.1.2)) :: [(w.heap.size, (x, y)), (w.heap.size + 1, (x, y)), (w.heap.size + 2, (x3, y3))]) .nilIface [] 0) (L3.out.add P.1.1 P.1.2) fun W4 L4 => ?_
      obtain ⟨x0, x1⟩ := L4.cells (b := w.heap.size) (p := (x, y)) (by simp)
      replace L4 := Lib.hid L4
      go_wp2_with fail
      refine (hRx.out _).mono ?_; rintro e w6 ⟨rfl, hb⟩
      have L6 := L4.out.next hb
      clear hb x0 x1
      obtain ⟨x0, x1⟩ := L6.cells (b := w.heap.size) (p := (x, y)) (by simp)
      replace L6 := Lib.hid L6
      go_wp2_with fail
      refine (hRx.out _).mono ?_; rintro e w5 ⟨rfl, hb⟩
      have L5 := L6.out.next hb
      clear hb x0 x1
      replace L5 := Lib.hid L5
      go_upto_region 6 with fail
      refine wp_region_lex [(true, 0), (true, 2), (true, 5), (true, 6), (true, 7), (false, 1), (false, 3), (true, 4), (true, 8), (true, 9), (false, 10), (true, 11), (true, 12)] (fun W : World => (W.cell? ⟨w.heap.size, 0, none⟩ = some (.int .i64 x) ∧ W.cell? ⟨w.heap.size, 1, none⟩ = some (.int .i64 y)) ∧ (W.cell? ⟨(w.heap.size + 1), 0, none⟩ = some (.int .i64 x) ∧ W.cell? ⟨(w.heap.size + 1), 1, none⟩ = some (.int .i64 y))) (by kernel_rfl) (by kernel_rfl) (fun R hR => ?_)
      have q0 := (L5.out).drew
      have hHeld : (fun W : World => (W.cell? ⟨w.heap.size, 0, none⟩ = some (.int .i64 x) ∧ W.cell? ⟨w.heap.size, 1, none⟩ = some (.int .i64 y)) ∧ (W.cell? ⟨(w.heap.size + 1), 0, none⟩ = some (.int .i64 x) ∧ W.cell? ⟨(w.heap.size + 1), 1, none⟩ = some (.int .i64 y))) _ := ⟨q0.cells (b := w.heap.size) (p := (x, y)) (by simp), q0.cells (b := (w.heap.size + 1)) (p := (x, y)) (by simp)⟩
      replace q0 := Lib.hid q0
      repeat (first | (refine lex_take (v := ?_) rfl (by rfl) (by assumption) ?_ ?_; rotate_left 1; (focus (intro w hSw; (try dsimp only at hSw); go_simp; (try with_reducible rfl))); (try simp only [Act.put, List.setIfInBounds_toArray, List.set_cons_zero, List.set_cons_succ])) | (refine lex_pass rfl (by rfl) (by assumption) ?_; (try simp only [Act.put, List.setIfInBounds_toArray, List.set_cons_zero, List.set_cons_succ])))
      (refine lex_call rfl (by rfl) (fun K hq => ?_); go_simp)
      go_at_call 15
      refine (hPa.out _ q0.out.below).mono ?_; rintro e v1 ⟨rfl, hb1⟩
      have q1 := Lay2.next q0.out hb1
      clear hHeld hb1 q0
      have hHeld : (fun W : World => (W.cell? ⟨w.heap.size, 0, none⟩ = some (.int .i64 x) ∧ W.cell? ⟨w.heap.size, 1, none⟩ = some (.int .i64 y)) ∧ (W.cell? ⟨(w.heap.size + 1), 0, none⟩ = some (.int .i64 x) ∧ W.cell? ⟨(w.heap.size + 1), 1, none⟩ = some (.int .i64 y))) v1 := ⟨q1.cells (b := w.heap.size) (p := (x, y)) (by simp), q1.cells (b := (w.heap.size + 1)) (p := (x, y)) (by simp)⟩
      replace q1 := Lib.hid q1
      go_wp2_with fail
      (refine hq.out _ _ (fun W : World => (W.cell? ⟨w.heap.size, 0, none⟩ = some (.int .i64 x) ∧ W.cell? ⟨w.heap.size, 1, none⟩ = some (.int .i64 y)) ∧ (W.cell? ⟨(w.heap.size + 1), 0, none⟩ = some (.int .i64 x) ∧ W.cell? ⟨(w.heap.size + 1), 1, none⟩ = some (.int .i64 y))) (fun _ h => h) hHeld ?_; clear hq K; (try simp only [Act.put, List.setIfInBounds_toArray, List.set_cons_zero, List.set_cons_succ]))
      repeat (first | (refine lex_take (v := ?_) rfl (by rfl) (by assumption) ?_ ?_; rotate_left 1; (focus (intro w hSw; (try dsimp only at hSw); go_simp; (try with_reducible rfl))); (try simp only [Act.put, List.setIfInBounds_toArray, List.set_cons_zero, List.set_cons_succ])) | (refine lex_pass rfl (by rfl) (by assumption) ?_; (try simp only [Act.put, List.setIfInBounds_toArray, List.set_cons_zero, List.set_cons_succ])))
      (refine lex_call rfl (by rfl) (fun K hq => ?_); go_simp)
      go_at_call 15
      refine (hPb.out _ q1.out.below).mono ?_; rintro e v2 ⟨rfl, hb2⟩
      have q2 := Lay2.next q1.out hb2
      clear hHeld hb2 q1
      have hHeld : (fun W : World => (W.cell? ⟨w.heap.size, 0, none⟩ = some (.int .i64 x) ∧ W.cell? ⟨w.heap.size, 1, none⟩ = some (.int .i64 y)) ∧ (W.cell? ⟨(w.heap.size + 1), 0, none⟩ = some (.int .i64 x) ∧ W.cell? ⟨(w.heap.size + 1), 1, none⟩ = some (.int .i64 y))) v2 := ⟨q2.cells (b := w.heap.size) (p := (x, y)) (by simp), q2.cells (b := (w.heap.size + 1)) (p := (x, y)) (by simp)⟩
      replace q2 := Lib.hid q2
      go_wp2_with fail
      (refine hq.out _ _ (fun W : World => (W.cell? ⟨w.heap.size, 0, none⟩ = some (.int .i64 x) ∧ W.cell? ⟨w.heap.size, 1, none⟩ = some (.int .i64 y)) ∧ (W.cell? ⟨(w.heap.size + 1), 0, none⟩ = some (.int .i64 x) ∧ W.cell? ⟨(w.heap.size + 1), 1, none⟩ = some (.int .i64 y))) (fun _ h => h) hHeld ?_; clear hq K; (try simp only [Act.put, List.setIfInBounds_toArray, List.set_cons_zero, List.set_cons_succ]))
      repeat (first | (refine lex_take (v := ?_) rfl (by rfl) (by assumption) ?_ ?_; rotate_left 1; (focus (intro w hSw; (try dsimp only at hSw); go_simp; (try with_reducible rfl))); (try simp only [Act.put, List.setIfInBounds_toArray, List.set_cons_zero, List.set_cons_succ])) | (refine lex_pass rfl (by rfl) (by assumption) ?_; (try simp only [Act.put, List.setIfInBounds_toArray, List.set_cons_zero, List.set_cons_succ])))
      (refine lex_call rfl (by rfl) (fun K hq => ?_); go_simp)
      go_at_call 8
      refine (hAw.out _ q2.out.below).mono ?_; rintro e v3 ⟨rfl, hb3⟩
      have q3 := Lay2.next q2.out hb3
      clear hHeld hb3 q2
      have hHeld : (fun W : World => (W.cell? ⟨w.heap.size, 0, none⟩ = some (.int .i64 x) ∧ W.cell? ⟨w.heap.size, 1, none⟩ = some (.int .i64 y)) ∧ (W.cell? ⟨(w.heap.size + 1), 0, none⟩ = some (.int .i64 x) ∧ W.cell? ⟨(w.heap.size + 1), 1, none⟩ = some (.int .i64 y))) v3 := ⟨q3.cells (b := w.heap.size) (p := (x, y)) (by simp), q3.cells (b := (w.heap.size + 1)) (p := (x, y)) (by simp)⟩
      replace q3 := Lib.hid q3
      go_wp2_with fail
      (refine hq.out _ _ (fun W : World => (W.cell? ⟨w.heap.size, 0, none⟩ = some (.int .i64 x) ∧ W.cell? ⟨w.heap.size, 1, none⟩ = some (.int .i64 y)) ∧ (W.cell? ⟨(w.heap.size + 1), 0, none⟩ = some (.int .i64 x) ∧ W.cell? ⟨(w.heap.size + 1), 1, none⟩ = some (.int .i64 y))) (fun _ h => h) hHeld ?_; clear hq K; (try simp only [Act.put, List.setIfInBounds_toArray, List.set_cons_zero, List.set_cons_succ]))
      repeat (first | (refine lex_take (v := ?_) rfl (by rfl) (by assumption) ?_ ?_; rotate_left 1; (focus (intro w hSw; (try dsimp only at hSw); go_simp; (try with_reducible rfl))); (try simp only [Act.put, List.setIfInBounds_toArray, List.set_cons_zero, List.set_cons_succ])) | (refine lex_pass rfl (by rfl) (by assumption) ?_; (try simp only [Act.put, List.setIfInBounds_toArray, List.set_cons_zero, List.set_cons_succ])))
      refine lex_end ?_
      refine hR.out _ _ ?_
      clear hR R
      go_wp2_with fail
      go_ret
      exact ⟨rfl, q3.out.below⟩
    · have hP4 := hright rfl
      subst hP4
      clear hwrong hright
      replace hRx := Lib.hid hRx
      go_enter Tryz.func4, Tryz.ntmps4
      go_upto_region 1 with fail
      refine wp_region_lex [(true, 0), (true, 1), (true, 2), (true, 3), (true, 4), (false, 5), (true, 6), (true, 7), (true, 8), (true, 9), (false, 10), (true, 11), (true, 12), (true, 13), (true, 14), (true, 15), (true, 16), (false, 17), (true, 18), (true, 19), (true, 20), (false, 21), (true, 22), (true, 23), (true, 24), (true, 25), (true, 26), (false, 27), (true, 28), (true, 29), (true, 30), (false, 31), (true, 32), (true, 33), (true, 34), (true, 35), (false, 36), (true, 37), (true, 38), (true, 39)] (fun W : World => (W.cell? ⟨w.heap.size, 0, none⟩ = some (.int .i64 x) ∧ W.cell? ⟨w.heap.size, 1, none⟩ = some (.int .i64 y)) ∧ (W.cell? ⟨(w.heap.size + 1), 0, none⟩ = some (.int .i64 x) ∧ W.cell? ⟨(w.heap.size + 1), 1, none⟩ = some (.int .i64 y)) ∧ (W.cell? ⟨(w.heap.size + 2), 0, none⟩ = some (.int .i64 x3) ∧ W.cell? ⟨(w.heap.size + 2), 1, none⟩ = some (.int .i64 y3))) (by kernel_rfl) (by kernel_rfl) (fun R hR => ?_)
      have q0 := (L0.out).drew
      have hHeld : (fun W : World => (W.cell? ⟨w.heap.size, 0, none⟩ = some (.int .i64 x) ∧ W.cell? ⟨w.heap.size, 1, none⟩ = some (.int .i64 y)) ∧ (W.cell? ⟨(w.heap.size + 1), 0, none⟩ = some (.int .i64 x) ∧ W.cell? ⟨(w.heap.size + 1), 1, none⟩ = some (.int .i64 y)) ∧ (W.cell? ⟨(w.heap.size + 2), 0, none⟩ = some (.int .i64 x3) ∧ W.cell? ⟨(w.heap.size + 2), 1, none⟩ = some (.int .i64 y3))) _ := ⟨q0.cells (b := w.heap.size) (p := (x, y)) (by simp), q0.cells (b := (w.heap.size + 1)) (p := (x, y)) (by simp), q0.cells (b := (w.heap.size + 2)) (p := (x3, y3)) (by simp)⟩
      replace q0 := Lib.hid q0
      repeat (first | (refine lex_take (v := ?_) rfl (by rfl) (by assumption) ?_ ?_; rotate_left 1; (focus (intro w hSw; (try dsimp only at hSw); go_simp; (try with_reducible rfl))); (try simp only [Act.put, List.setIfInBounds_toArray, List.set_cons_zero, List.set_cons_succ])) | (refine lex_pass rfl (by rfl) (by assumption) ?_; (try simp only [Act.put, List.setIfInBounds_toArray, List.set_cons_zero, List.set_cons_succ])))
      (refine lex_call rfl (by rfl) (fun K hq => ?_); go_simp)
      go_at_call 13
      refine (hAB.out _).mono ?_; rintro e v1 ⟨rfl, hb1⟩
      have q1 := Lay2.next q0.out hb1
      clear hHeld hb1 q0
      have hHeld : (fun W : World => (W.cell? ⟨w.heap.size, 0, none⟩ = some (.int .i64 x) ∧ W.cell? ⟨w.heap.size, 1, none⟩ = some (.int .i64 y)) ∧ (W.cell? ⟨(w.heap.size + 1), 0, none⟩ = some (.int .i64 x) ∧ W.cell? ⟨(w.heap.size + 1), 1, none⟩ = some (.int .i64 y)) ∧ (W.cell? ⟨(w.heap.size + 2), 0, none⟩ = some (.int .i64 x3) ∧ W.cell? ⟨(w.heap.size + 2), 1, none⟩ = some (.int .i64 y3))) v1 := ⟨q1.cells (b := w.heap.size) (p := (x, y)) (by simp), q1.cells (b := (w.heap.size + 1)) (p := (x, y)) (by simp), q1.cells (b := (w.heap.size + 2)) (p := (x3, y3)) (by simp)⟩
      replace q1 := Lib.hid q1
      go_wp2_with fail
      (refine hq.out _ _ (fun W : World => (W.cell? ⟨w.heap.size, 0, none⟩ = some (.int .i64 x) ∧ W.cell? ⟨w.heap.size, 1, none⟩ = some (.int .i64 y)) ∧ (W.cell? ⟨(w.heap.size + 1), 0, none⟩ = some (.int .i64 x) ∧ W.cell? ⟨(w.heap.size + 1), 1, none⟩ = some (.int .i64 y)) ∧ (W.cell? ⟨(w.heap.size + 2), 0, none⟩ = some (.int .i64 x3) ∧ W.cell? ⟨(w.heap.size + 2), 1, none⟩ = some (.int .i64 y3))) (fun _ h => h) hHeld ?_; clear hq K; (try simp only [Act.put, List.setIfInBounds_toArray, List.set_cons_zero, List.set_cons_succ]))
      repeat (first | (refine lex_take (v := ?_) rfl (by rfl) (by assumption) ?_ ?_; rotate_left 1; (focus (intro w hSw; (try dsimp only at hSw); go_simp; (try with_reducible rfl))); (try simp only [Act.put, List.setIfInBounds_toArray, List.set_cons_zero, List.set_cons_succ])) | (refine lex_pass rfl (by rfl) (by assumption) ?_; (try simp only [Act.put, List.setIfInBounds_toArray, List.set_cons_zero, List.set_cons_succ])))
      (refine lex_call rfl (by rfl) (fun K hq => ?_); go_simp)
      go_at_call 13
      refine (hBA.out _).mono ?_; rintro e v2 ⟨rfl, hb2⟩
      have q2 := Lay2.next q1.out hb2
      clear hHeld hb2 q1
      have hHeld : (fun W : World => (W.cell? ⟨w.heap.size, 0, none⟩ = some (.int .i64 x) ∧ W.cell? ⟨w.heap.size, 1, none⟩ = some (.int .i64 y)) ∧ (W.cell? ⟨(w.heap.size + 1), 0, none⟩ = some (.int .i64 x) ∧ W.cell? ⟨(w.heap.size + 1), 1, none⟩ = some (.int .i64 y)) ∧ (W.cell? ⟨(w.heap.size + 2), 0, none⟩ = some (.int .i64 x3) ∧ W.cell? ⟨(w.heap.size + 2), 1, none⟩ = some (.int .i64 y3))) v2 := ⟨q2.cells (b := w.heap.size) (p := (x, y)) (by simp), q2.cells (b := (w.heap.size + 1)) (p := (x, y)) (by simp), q2.cells (b := (w.heap.size + 2)) (p := (x3, y3)) (by simp)⟩
      replace q2 := Lib.hid q2
      go_wp2_with fail
      (refine hq.out _ _ (fun W : World => (W.cell? ⟨w.heap.size, 0, none⟩ = some (.int .i64 x) ∧ W.cell? ⟨w.heap.size, 1, none⟩ = some (.int .i64 y)) ∧ (W.cell? ⟨(w.heap.size + 1), 0, none⟩ = some (.int .i64 x) ∧ W.cell? ⟨(w.heap.size + 1), 1, none⟩ = some (.int .i64 y)) ∧ (W.cell? ⟨(w.heap.size + 2), 0, none⟩ = some (.int .i64 x3) ∧ W.cell? ⟨(w.heap.size + 2), 1, none⟩ = some (.int .i64 y3))) (fun _ h => h) hHeld ?_; clear hq K; (try simp only [Act.put, List.setIfInBounds_toArray, List.set_cons_zero, List.set_cons_succ]))
      repeat (first | (refine lex_take (v := ?_) rfl (by rfl) (by assumption) ?_ ?_; rotate_left 1; (focus (intro w hSw; (try dsimp only at hSw); go_simp; (try with_reducible rfl))); (try simp only [Act.put, List.setIfInBounds_toArray, List.set_cons_zero, List.set_cons_succ])) | (refine lex_pass rfl (by rfl) (by assumption) ?_; (try simp only [Act.put, List.setIfInBounds_toArray, List.set_cons_zero, List.set_cons_succ])))
      (refine lex_call rfl (by rfl) (fun K hq => ?_); go_simp)
      go_at_call 13
      refine (hAB.out _).mono ?_; rintro e v3 ⟨rfl, hb3⟩
      have q3 := Lay2.next q2.out hb3
      clear hHeld hb3 q2
      have hHeld : (fun W : World => (W.cell? ⟨w.heap.size, 0, none⟩ = some (.int .i64 x) ∧ W.cell? ⟨w.heap.size, 1, none⟩ = some (.int .i64 y)) ∧ (W.cell? ⟨(w.heap.size + 1), 0, none⟩ = some (.int .i64 x) ∧ W.cell? ⟨(w.heap.size + 1), 1, none⟩ = some (.int .i64 y)) ∧ (W.cell? ⟨(w.heap.size + 2), 0, none⟩ = some (.int .i64 x3) ∧ W.cell? ⟨(w.heap.size + 2), 1, none⟩ = some (.int .i64 y3))) v3 := ⟨q3.cells (b := w.heap.size) (p := (x, y)) (by simp), q3.cells (b := (w.heap.size + 1)) (p := (x, y)) (by simp), q3.cells (b := (w.heap.size + 2)) (p := (x3, y3)) (by simp)⟩
      replace q3 := Lib.hid q3
      go_wp2_with fail
      (refine hq.out _ _ (fun W : World => (W.cell? ⟨w.heap.size, 0, none⟩ = some (.int .i64 x) ∧ W.cell? ⟨w.heap.size, 1, none⟩ = some (.int .i64 y)) ∧ (W.cell? ⟨(w.heap.size + 1), 0, none⟩ = some (.int .i64 x) ∧ W.cell? ⟨(w.heap.size + 1), 1, none⟩ = some (.int .i64 y)) ∧ (W.cell? ⟨(w.heap.size + 2), 0, none⟩ = some (.int .i64 x3) ∧ W.cell? ⟨(w.heap.size + 2), 1, none⟩ = some (.int .i64 y3))) (fun _ h => h) hHeld ?_; clear hq K; (try simp only [Act.put, List.setIfInBounds_toArray, List.set_cons_zero, List.set_cons_succ]))
      repeat (first | (refine lex_take (v := ?_) rfl (by rfl) (by assumption) ?_ ?_; rotate_left 1; (focus (intro w hSw; (try dsimp only at hSw); go_simp; (try with_reducible rfl))); (try simp only [Act.put, List.setIfInBounds_toArray, List.set_cons_zero, List.set_cons_succ])) | (refine lex_pass rfl (by rfl) (by assumption) ?_; (try simp only [Act.put, List.setIfInBounds_toArray, List.set_cons_zero, List.set_cons_succ])))
      (refine lex_call rfl (by rfl) (fun K hq => ?_); go_simp)
      go_at_call 13
      refine (hAB.out _).mono ?_; rintro e v4 ⟨rfl, hb4⟩
      have q4 := Lay2.next q3.out hb4
      clear hHeld hb4 q3
      have hHeld : (fun W : World => (W.cell? ⟨w.heap.size, 0, none⟩ = some (.int .i64 x) ∧ W.cell? ⟨w.heap.size, 1, none⟩ = some (.int .i64 y)) ∧ (W.cell? ⟨(w.heap.size + 1), 0, none⟩ = some (.int .i64 x) ∧ W.cell? ⟨(w.heap.size + 1), 1, none⟩ = some (.int .i64 y)) ∧ (W.cell? ⟨(w.heap.size + 2), 0, none⟩ = some (.int .i64 x3) ∧ W.cell? ⟨(w.heap.size + 2), 1, none⟩ = some (.int .i64 y3))) v4 := ⟨q4.cells (b := w.heap.size) (p := (x, y)) (by simp), q4.cells (b := (w.heap.size + 1)) (p := (x, y)) (by simp), q4.cells (b := (w.heap.size + 2)) (p := (x3, y3)) (by simp)⟩
      replace q4 := Lib.hid q4
      go_wp2_with fail
      (refine hq.out _ _ (fun W : World => (W.cell? ⟨w.heap.size, 0, none⟩ = some (.int .i64 x) ∧ W.cell? ⟨w.heap.size, 1, none⟩ = some (.int .i64 y)) ∧ (W.cell? ⟨(w.heap.size + 1), 0, none⟩ = some (.int .i64 x) ∧ W.cell? ⟨(w.heap.size + 1), 1, none⟩ = some (.int .i64 y)) ∧ (W.cell? ⟨(w.heap.size + 2), 0, none⟩ = some (.int .i64 x3) ∧ W.cell? ⟨(w.heap.size + 2), 1, none⟩ = some (.int .i64 y3))) (fun _ h => h) hHeld ?_; clear hq K; (try simp only [Act.put, List.setIfInBounds_toArray, List.set_cons_zero, List.set_cons_succ]))
      repeat (first | (refine lex_take (v := ?_) rfl (by rfl) (by assumption) ?_ ?_; rotate_left 1; (focus (intro w hSw; (try dsimp only at hSw); go_simp; (try with_reducible rfl))); (try simp only [Act.put, List.setIfInBounds_toArray, List.set_cons_zero, List.set_cons_succ])) | (refine lex_pass rfl (by rfl) (by assumption) ?_; (try simp only [Act.put, List.setIfInBounds_toArray, List.set_cons_zero, List.set_cons_succ])))
      refine lex_end ?_
      refine hR.out _ _ ?_
      clear hR R
      have L1 := q4
      clear q4
      go_upto_region 3 with fail
      obtain ⟨x0, x1⟩ := L1.out.cells (b := w.heap.size) (p := (x, y)) (by simp)
      go_wp2_with fail
      refine (hPa.out _ L1.out.below).mono ?_; rintro e w2 ⟨rfl, hb⟩
      have L2 := L1.out.next hb
      replace L2 := Lib.hid L2
      clear hb x0 x1
      go_wp2_with fail
      refine (hPs.out _ L2.out.below).mono ?_; rintro e w3 ⟨v, rfl, hv, hb⟩
      have L3 := L2.out.next hb
      clear hb
      obtain ⟨_, rfl⟩ := hv.resolve_right (fun h => h.1 rfl)
      clear hv
      replace L3 := Lib.hid L3
      go_upto_region 4 with fail
      refine worldI (α := fun W' => Code.wp _ _ _ _ W') (Lay2 w sv ((w3.heap.size, (x, y)) :: [(w.heap.size, (x, y)), (w.heap.size + 1, (x, y)), (w.heap.size + 2, (x3, y3))]) .nilIface [] 0) (L3.out.add x y) fun W4 L4 => ?_
      obtain ⟨x0, x1⟩ := L4.cells (b := w.heap.size) (p := (x, y)) (by simp)
      replace L4 := Lib.hid L4
      go_wp2_with fail
      refine (hRx.out _).mono ?_; rintro e w6 ⟨rfl, hb⟩
      have L6 := L4.out.next hb
      clear hb x0 x1
      obtain ⟨x0, x1⟩ := L6.cells (b := w.heap.size) (p := (x, y)) (by simp)
      obtain ⟨z0, z1⟩ := L6.cells (b := w3.heap.size) (p := (x, y)) (by simp)
      replace L6 := Lib.hid L6
      go_wp2_with fail
      refine (hRx.out _).mono ?_; rintro e w5 ⟨rfl, hb⟩
      have L5 := L6.out.next hb
      clear hb x0 x1 z0 z1
      replace L5 := Lib.hid L5
      go_upto_region 6 with fail
      refine wp_region_lex [(true, 0), (true, 2), (true, 5), (true, 6), (true, 7), (false, 1), (false, 3), (true, 4), (true, 8), (true, 9), (false, 10), (true, 11), (true, 12)] (fun W : World => (W.cell? ⟨w.heap.size, 0, none⟩ = some (.int .i64 x) ∧ W.cell? ⟨w.heap.size, 1, none⟩ = some (.int .i64 y)) ∧ (W.cell? ⟨(w.heap.size + 1), 0, none⟩ = some (.int .i64 x) ∧ W.cell? ⟨(w.heap.size + 1), 1, none⟩ = some (.int .i64 y))) (by kernel_rfl) (by kernel_rfl) (fun R hR => ?_)
      have q0 := (L5.out).drew
      have hHeld : (fun W : World => (W.cell? ⟨w.heap.size, 0, none⟩ = some (.int .i64 x) ∧ W.cell? ⟨w.heap.size, 1, none⟩ = some (.int .i64 y)) ∧ (W.cell? ⟨(w.heap.size + 1), 0, none⟩ = some (.int .i64 x) ∧ W.cell? ⟨(w.heap.size + 1), 1, none⟩ = some (.int .i64 y))) _ := ⟨q0.cells (b := w.heap.size) (p := (x, y)) (by simp), q0.cells (b := (w.heap.size + 1)) (p := (x, y)) (by simp)⟩
      replace q0 := Lib.hid q0
      repeat (first | (refine lex_take (v := ?_) rfl (by rfl) (by assumption) ?_ ?_; rotate_left 1; (focus (intro w hSw; (try dsimp only at hSw); go_simp; (try with_reducible rfl))); (try simp only [Act.put, List.setIfInBounds_toArray, List.set_cons_zero, List.set_cons_succ])) | (refine lex_pass rfl (by rfl) (by assumption) ?_; (try simp only [Act.put, List.setIfInBounds_toArray, List.set_cons_zero, List.set_cons_succ])))
      (refine lex_call rfl (by rfl) (fun K hq => ?_); go_simp)
      go_at_call 15
      refine (hPa.out _ q0.out.below).mono ?_; rintro e v1 ⟨rfl, hb1⟩
      have q1 := Lay2.next q0.out hb1
      clear hHeld hb1 q0
      have hHeld : (fun W : World => (W.cell? ⟨w.heap.size, 0, none⟩ = some (.int .i64 x) ∧ W.cell? ⟨w.heap.size, 1, none⟩ = some (.int .i64 y)) ∧ (W.cell? ⟨(w.heap.size + 1), 0, none⟩ = some (.int .i64 x) ∧ W.cell? ⟨(w.heap.size + 1), 1, none⟩ = some (.int .i64 y))) v1 := ⟨q1.cells (b := w.heap.size) (p := (x, y)) (by simp), q1.cells (b := (w.heap.size + 1)) (p := (x, y)) (by simp)⟩
      replace q1 := Lib.hid q1
      go_wp2_with fail
      (refine hq.out _ _ (fun W : World => (W.cell? ⟨w.heap.size, 0, none⟩ = some (.int .i64 x) ∧ W.cell? ⟨w.heap.size, 1, none⟩ = some (.int .i64 y)) ∧ (W.cell? ⟨(w.heap.size + 1), 0, none⟩ = some (.int .i64 x) ∧ W.cell? ⟨(w.heap.size + 1), 1, none⟩ = some (.int .i64 y))) (fun _ h => h) hHeld ?_; clear hq K; (try simp only [Act.put, List.setIfInBounds_toArray, List.set_cons_zero, List.set_cons_succ]))
      repeat (first | (refine lex_take (v := ?_) rfl (by rfl) (by assumption) ?_ ?_; rotate_left 1; (focus (intro w hSw; (try dsimp only at hSw); go_simp; (try with_reducible rfl))); (try simp only [Act.put, List.setIfInBounds_toArray, List.set_cons_zero, List.set_cons_succ])) | (refine lex_pass rfl (by rfl) (by assumption) ?_; (try simp only [Act.put, List.setIfInBounds_toArray, List.set_cons_zero, List.set_cons_succ])))
      (refine lex_call rfl (by rfl) (fun K hq => ?_); go_simp)
      go_at_call 15
      refine (hPb.out _ q1.out.below).mono ?_; rintro e v2 ⟨rfl, hb2⟩
      have q2 := Lay2.next q1.out hb2
      clear hHeld hb2 q1
      have hHeld : (fun W : World => (W.cell? ⟨w.heap.size, 0, none⟩ = some (.int .i64 x) ∧ W.cell? ⟨w.heap.size, 1, none⟩ = some (.int .i64 y)) ∧ (W.cell? ⟨(w.heap.size + 1), 0, none⟩ = some (.int .i64 x) ∧ W.cell? ⟨(w.heap.size + 1), 1, none⟩ = some (.int .i64 y))) v2 := ⟨q2.cells (b := w.heap.size) (p := (x, y)) (by simp), q2.cells (b := (w.heap.size + 1)) (p := (x, y)) (by simp)⟩
      replace q2 := Lib.hid q2
      go_wp2_with fail
      (refine hq.out _ _ (fun W : World => (W.cell? ⟨w.heap.size, 0, none⟩ = some (.int .i64 x) ∧ W.cell? ⟨w.heap.size, 1, none⟩ = some (.int .i64 y)) ∧ (W.cell? ⟨(w.heap.size + 1), 0, none⟩ = some (.int .i64 x) ∧ W.cell? ⟨(w.heap.size + 1), 1, none⟩ = some (.int .i64 y))) (fun _ h => h) hHeld ?_; clear hq K; (try simp only [Act.put, List.setIfInBounds_toArray, List.set_cons_zero, List.set_cons_succ]))
      repeat (first | (refine lex_take (v := ?_) rfl (by rfl) (by assumption) ?_ ?_; rotate_left 1; (focus (intro w hSw; (try dsimp only at hSw); go_simp; (try with_reducible rfl))); (try simp only [Act.put, List.setIfInBounds_toArray, List.set_cons_zero, List.set_cons_succ])) | (refine lex_pass rfl (by rfl) (by assumption) ?_; (try simp only [Act.put, List.setIfInBounds_toArray, List.set_cons_zero, List.set_cons_succ])))
      (refine lex_call rfl (by rfl) (fun K hq => ?_); go_simp)
      go_at_call 8
      refine (hAw.out _ q2.out.below).mono ?_; rintro e v3 ⟨rfl, hb3⟩
      have q3 := Lay2.next q2.out hb3
      clear hHeld hb3 q2
      have hHeld : (fun W : World => (W.cell? ⟨w.heap.size, 0, none⟩ = some (.int .i64 x) ∧ W.cell? ⟨w.heap.size, 1, none⟩ = some (.int .i64 y)) ∧ (W.cell? ⟨(w.heap.size + 1), 0, none⟩ = some (.int .i64 x) ∧ W.cell? ⟨(w.heap.size + 1), 1, none⟩ = some (.int .i64 y))) v3 := ⟨q3.cells (b := w.heap.size) (p := (x, y)) (by simp), q3.cells (b := (w.heap.size + 1)) (p := (x, y)) (by simp)⟩
      replace q3 := Lib.hid q3
      go_wp2_with fail
      (refine hq.out _ _ (fun W : World => (W.cell? ⟨w.heap.size, 0, none⟩ = some (.int .i64 x) ∧ W.cell? ⟨w.heap.size, 1, none⟩ = some (.int .i64 y)) ∧ (W.cell? ⟨(w.heap.size + 1), 0, none⟩ = some (.int .i64 x) ∧ W.cell? ⟨(w.heap.size + 1), 1, none⟩ = some (.int .i64 y))) (fun _ h => h) hHeld ?_; clear hq K; (try simp only [Act.put, List.setIfInBounds_toArray, List.set_cons_zero, List.set_cons_succ]))
      repeat (first | (refine lex_take (v := ?_) rfl (by rfl) (by assumption) ?_ ?_; rotate_left 1; (focus (intro w hSw; (try dsimp only at hSw); go_simp; (try with_reducible rfl))); (try simp only [Act.put, List.setIfInBounds_toArray, List.set_cons_zero, List.set_cons_succ])) | (refine lex_pass rfl (by rfl) (by assumption) ?_; (try simp only [Act.put, List.setIfInBounds_toArray, List.set_cons_zero, List.set_cons_succ])))
      refine lex_end ?_
      refine hR.out _ _ ?_
      clear hR R
      go_wp2_with fail
      go_ret
      exact ⟨rfl, q3.out.below⟩
  have t1 := toListI_ne (hinj hxy)
  have t2 : (TX.toList == TY.toList) = false := beq_eq_false_iff_ne.2 t1
  replace o1 := o1 hxy
  clear hinj heq o4
  have hxy2 := id_eq_false hxy
  clear hxy
  generalize idLt (x, y) (x2, y2) = p at *
  generalize idLt (x2, y2) (x, y) = q at *
  generalize idLt (x2, y2) (x3, y3) = r at *
  generalize idLt (x, y) (x3, y3) = s at *
  cases p
  · have h0 := o1 rfl
    subst h0
    clear o1 o2 o3
    replace hAB := Lib.hid hAB
    replace hBA := Lib.hid hBA
    replace hBC := Lib.hid hBC
    replace hAC := Lib.hid hAC
    rcases hxy2 with h | ⟨h0, h⟩
    · cases rx
      · have hP4 := Lib.hid (hwrong rfl)
        clear hwrong hright
        replace hRx := Lib.hid hRx
        go_enter Tryz.func4, Tryz.ntmps4
        go_upto_region 1 with fail
        refine wp_region_lex [(true, 0), (true, 1), (true, 2), (true, 3), (true, 4), (false, 5), (true, 6), (true, 7), (true, 8), (true, 9), (false, 10), (true, 11), (true, 12), (true, 13), (true, 14), (true, 15), (true, 16), (false, 17), (true, 18), (true, 19), (true, 20), (false, 21), (true, 22), (true, 23), (true, 24), (true, 25), (true, 26), (false, 27), (true, 28), (true, 29), (true, 30), (false, 31), (true, 32), (true, 33), (true, 34), (true, 35), (false, 36), (true, 37), (true, 38), (true, 39)] (fun W : World => (W.cell? ⟨w.heap.size, 0, none⟩ = some (.int .i64 x) ∧ W.cell? ⟨w.heap.size, 1, none⟩ = some (.int .i64 y)) ∧ (W.cell? ⟨(w.heap.size + 1), 0, none⟩ = some (.int .i64 x2) ∧ W.cell? ⟨(w.heap.size + 1), 1, none⟩ = some (.int .i64 y2)) ∧ (W.cell? ⟨(w.heap.size + 2), 0, none⟩ = some (.int .i64 x3) ∧ W.cell? ⟨(w.heap.size + 2), 1, none⟩ = some (.int .i64 y3))) (by kernel_rfl) (by kernel_rfl) (fun R hR => ?_)
        have q0 := (L0.out).drew
        have hHeld : (fun W : World => (W.cell? ⟨w.heap.size, 0, none⟩ = some (.int .i64 x) ∧ W.cell? ⟨w.heap.size, 1, none⟩ = some (.int .i64 y)) ∧ (W.cell? ⟨(w.heap.size + 1), 0, none⟩ = some (.int .i64 x2) ∧ W.cell? ⟨(w.heap.size + 1), 1, none⟩ = some (.int .i64 y2)) ∧ (W.cell? ⟨(w.heap.size + 2), 0, none⟩ = some (.int .i64 x3) ∧ W.cell? ⟨(w.heap.size + 2), 1, none⟩ = some (.int .i64 y3))) _ := ⟨q0.cells (b := w.heap.size) (p := (x, y)) (by simp), q0.cells (b := (w.heap.size + 1)) (p := (x2, y2)) (by simp), q0.cells (b := (w.heap.size + 2)) (p := (x3, y3)) (by simp)⟩
        replace q0 := Lib.hid q0
        repeat (first | (refine lex_take (v := ?_) rfl (by rfl) (by assumption) ?_ ?_; rotate_left 1; (focus (intro w hSw; (try dsimp only at hSw); go_simp; (try with_reducible rfl))); (try simp only [Act.put, List.setIfInBounds_toArray, List.set_cons_zero, List.set_cons_succ])) | (refine lex_pass rfl (by rfl) (by assumption) ?_; (try simp only [Act.put, List.setIfInBounds_toArray, List.set_cons_zero, List.set_cons_succ])))
        (refine lex_call rfl (by rfl) (fun K hq => ?_); go_simp)
        go_at_call 13
        refine (hAB.out _).mono ?_; rintro e v1 ⟨rfl, hb1⟩
        have q1 := Lay2.next q0.out hb1
        clear hHeld hb1 q0
        have hHeld : (fun W : World => (W.cell? ⟨w.heap.size, 0, none⟩ = some (.int .i64 x) ∧ W.cell? ⟨w.heap.size, 1, none⟩ = some (.int .i64 y)) ∧ (W.cell? ⟨(w.heap.size + 1), 0, none⟩ = some (.int .i64 x2) ∧ W.cell? ⟨(w.heap.size + 1), 1, none⟩ = some (.int .i64 y2)) ∧ (W.cell? ⟨(w.heap.size + 2), 0, none⟩ = some (.int .i64 x3) ∧ W.cell? ⟨(w.heap.size + 2), 1, none⟩ = some (.int .i64 y3))) v1 := ⟨q1.cells (b := w.heap.size) (p := (x, y)) (by simp), q1.cells (b := (w.heap.size + 1)) (p := (x2, y2)) (by simp), q1.cells (b := (w.heap.size + 2)) (p := (x3, y3)) (by simp)⟩
        replace q1 := Lib.hid q1
        go_wp2_with fail
        (refine hq.out _ _ (fun W : World => (W.cell? ⟨w.heap.size, 0, none⟩ = some (.int .i64 x) ∧ W.cell? ⟨w.heap.size, 1, none⟩ = some (.int .i64 y)) ∧ (W.cell? ⟨(w.heap.size + 1), 0, none⟩ = some (.int .i64 x2) ∧ W.cell? ⟨(w.heap.size + 1), 1, none⟩ = some (.int .i64 y2)) ∧ (W.cell? ⟨(w.heap.size + 2), 0, none⟩ = some (.int .i64 x3) ∧ W.cell? ⟨(w.heap.size + 2), 1, none⟩ = some (.int .i64 y3))) (fun _ h => h) hHeld ?_; clear hq K; (try simp only [Act.put, List.setIfInBounds_toArray, List.set_cons_zero, List.set_cons_succ]))
        repeat (first | (refine lex_take (v := ?_) rfl (by rfl) (by assumption) ?_ ?_; rotate_left 1; (focus (intro w hSw; (try dsimp only at hSw); go_simp; (try with_reducible rfl))); (try simp only [Act.put, List.setIfInBounds_toArray, List.set_cons_zero, List.set_cons_succ])) | (refine lex_pass rfl (by rfl) (by assumption) ?_; (try simp only [Act.put, List.setIfInBounds_toArray, List.set_cons_zero, List.set_cons_succ])))
        (refine lex_call rfl (by rfl) (fun K hq => ?_); go_simp)
        go_at_call 13
        refine (hBA.out _).mono ?_; rintro e v2 ⟨rfl, hb2⟩
        have q2 := Lay2.next q1.out hb2
        clear hHeld hb2 q1
        have hHeld : (fun W : World => (W.cell? ⟨w.heap.size, 0, none⟩ = some (.int .i64 x) ∧ W.cell? ⟨w.heap.size, 1, none⟩ = some (.int .i64 y)) ∧ (W.cell? ⟨(w.heap.size + 1), 0, none⟩ = some (.int .i64 x2) ∧ W.cell? ⟨(w.heap.size + 1), 1, none⟩ = some (.int .i64 y2)) ∧ (W.cell? ⟨(w.heap.size + 2), 0, none⟩ = some (.int .i64 x3) ∧ W.cell? ⟨(w.heap.size + 2), 1, none⟩ = some (.int .i64 y3))) v2 := ⟨q2.cells (b := w.heap.size) (p := (x, y)) (by simp), q2.cells (b := (w.heap.size + 1)) (p := (x2, y2)) (by simp), q2.cells (b := (w.heap.size + 2)) (p := (x3, y3)) (by simp)⟩
        replace q2 := Lib.hid q2
        go_wp2_with fail
        (refine hq.out _ _ (fun W : World => (W.cell? ⟨w.heap.size, 0, none⟩ = some (.int .i64 x) ∧ W.cell? ⟨w.heap.size, 1, none⟩ = some (.int .i64 y)) ∧ (W.cell? ⟨(w.heap.size + 1), 0, none⟩ = some (.int .i64 x2) ∧ W.cell? ⟨(w.heap.size + 1), 1, none⟩ = some (.int .i64 y2)) ∧ (W.cell? ⟨(w.heap.size + 2), 0, none⟩ = some (.int .i64 x3) ∧ W.cell? ⟨(w.heap.size + 2), 1, none⟩ = some (.int .i64 y3))) (fun _ h => h) hHeld ?_; clear hq K; (try simp only [Act.put, List.setIfInBounds_toArray, List.set_cons_zero, List.set_cons_succ]))
        repeat (first | (refine lex_take (v := ?_) rfl (by rfl) (by assumption) ?_ ?_; rotate_left 1; (focus (intro w hSw; (try dsimp only at hSw); go_simp; (try with_reducible rfl))); (try simp only [Act.put, List.setIfInBounds_toArray, List.set_cons_zero, List.set_cons_succ])) | (refine lex_pass rfl (by rfl) (by assumption) ?_; (try simp only [Act.put, List.setIfInBounds_toArray, List.set_cons_zero, List.set_cons_succ])))
        (refine lex_call rfl (by rfl) (fun K hq => ?_); go_simp)
        go_at_call 13
        refine (hAB.out _).mono ?_; rintro e v3 ⟨rfl, hb3⟩
        have q3 := Lay2.next q2.out hb3
        clear hHeld hb3 q2
        have hHeld : (fun W : World => (W.cell? ⟨w.heap.size, 0, none⟩ = some (.int .i64 x) ∧ W.cell? ⟨w.heap.size, 1, none⟩ = some (.int .i64 y)) ∧ (W.cell? ⟨(w.heap.size + 1), 0, none⟩ = some (.int .i64 x2) ∧ W.cell? ⟨(w.heap.size + 1), 1, none⟩ = some (.int .i64 y2)) ∧ (W.cell? ⟨(w.heap.size + 2), 0, none⟩ = some (.int .i64 x3) ∧ W.cell? ⟨(w.heap.size + 2), 1, none⟩ = some (.int .i64 y3))) v3 := ⟨q3.cells (b := w.heap.size) (p := (x, y)) (by simp), q3.cells (b := (w.heap.size + 1)) (p := (x2, y2)) (by simp), q3.cells (b := (w.heap.size + 2)) (p := (x3, y3)) (by simp)⟩
        replace q3 := Lib.hid q3
        go_wp2_with fail
        (refine hq.out _ _ (fun W : World => (W.cell? ⟨w.heap.size, 0, none⟩ = some (.int .i64 x) ∧ W.cell? ⟨w.heap.size, 1, none⟩ = some (.int .i64 y)) ∧ (W.cell? ⟨(w.heap.size + 1), 0, none⟩ = some (.int .i64 x2) ∧ W.cell? ⟨(w.heap.size + 1), 1, none⟩ = some (.int .i64 y2)) ∧ (W.cell? ⟨(w.heap.size + 2), 0, none⟩ = some (.int .i64 x3) ∧ W.cell? ⟨(w.heap.size + 2), 1, none⟩ = some (.int .i64 y3))) (fun _ h => h) hHeld ?_; clear hq K; (try simp only [Act.put, List.setIfInBounds_toArray, List.set_cons_zero, List.set_cons_succ]))
        repeat (first | (refine lex_take (v := ?_) rfl (by rfl) (by assumption) ?_ ?_; rotate_left 1; (focus (intro w hSw; (try dsimp only at hSw); go_simp; (try with_reducible rfl))); (try simp only [Act.put, List.setIfInBounds_toArray, List.set_cons_zero, List.set_cons_succ])) | (refine lex_pass rfl (by rfl) (by assumption) ?_; (try simp only [Act.put, List.setIfInBounds_toArray, List.set_cons_zero, List.set_cons_succ])))
        (refine lex_call rfl (by rfl) (fun K hq => ?_); go_simp)
        go_at_call 13
        refine (hAB.out _).mono ?_; rintro e v4 ⟨rfl, hb4⟩
        have q4 := Lay2.next q3.out hb4
        clear hHeld hb4 q3
        have hHeld : (fun W : World => (W.cell? ⟨w.heap.size, 0, none⟩ = some (.int .i64 x) ∧ W.cell? ⟨w.heap.size, 1, none⟩ = some (.int .i64 y)) ∧ (W.cell? ⟨(w.heap.size + 1), 0, none⟩ = some (.int .i64 x2) ∧ W.cell? ⟨(w.heap.size + 1), 1, none⟩ = some (.int .i64 y2)) ∧ (W.cell? ⟨(w.heap.size + 2), 0, none⟩ = some (.int .i64 x3) ∧ W.cell? ⟨(w.heap.size + 2), 1, none⟩ = some (.int .i64 y3))) v4 := ⟨q4.cells (b := w.heap.size) (p := (x, y)) (by simp), q4.cells (b := (w.heap.size + 1)) (p := (x2, y2)) (by simp), q4.cells (b := (w.heap.size + 2)) (p := (x3, y3)) (by simp)⟩
        replace q4 := Lib.hid q4
        go_wp2_with fail
        (refine hq.out _ _ (fun W : World => (W.cell? ⟨w.heap.size, 0, none⟩ = some (.int .i64 x) ∧ W.cell? ⟨w.heap.size, 1, none⟩ = some (.int .i64 y)) ∧ (W.cell? ⟨(w.heap.size + 1), 0, none⟩ = some (.int .i64 x2) ∧ W.cell? ⟨(w.heap.size + 1), 1, none⟩ = some (.int .i64 y2)) ∧ (W.cell? ⟨(w.heap.size + 2), 0, none⟩ = some (.int .i64 x3) ∧ W.cell? ⟨(w.heap.size + 2), 1, none⟩ = some (.int .i64 y3))) (fun _ h => h) hHeld ?_; clear hq K; (try simp only [Act.put, List.setIfInBounds_toArray, List.set_cons_zero, List.set_cons_succ]))
        repeat (first | (refine lex_take (v := ?_) rfl (by rfl) (by assumption) ?_ ?_; rotate_left 1; (focus (intro w hSw; (try dsimp only at hSw); go_simp; (try with_reducible rfl))); (try simp only [Act.put, List.setIfInBounds_toArray, List.set_cons_zero, List.set_cons_succ])) | (refine lex_pass rfl (by rfl) (by assumption) ?_; (try simp only [Act.put, List.setIfInBounds_toArray, List.set_cons_zero, List.set_cons_succ])))
        refine lex_end ?_
        refine hR.out _ _ ?_
        clear hR R
        have L1 := q4
        clear q4
        go_upto_region 3 with fail
        obtain ⟨x0, x1⟩ := L1.out.cells (b := w.heap.size) (p := (x, y)) (by simp)
        go_wp2_with fail
        refine (hPa.out _ L1.out.below).mono ?_; rintro e w2 ⟨rfl, hb⟩
        have L2 := L1.out.next hb
        replace L2 := Lib.hid L2
        clear hb x0 x1
        go_wp2_with fail
        refine (hPs.out _ L2.out.below).mono ?_; rintro e w3 ⟨v, rfl, hv, hb⟩
        have L3 := L2.out.next hb
        clear hb
        obtain ⟨_, hv3, _⟩ := hv.resolve_left (fun h => by have h1 := h.1; rw [hP4.out] at h1; exact absurd h1 (by decide))
        obtain ⟨ty, u, rfl⟩ := hv3.iface
        clear hv hv3
        replace L3 := Lib.hid L3
        go_upto_region 4 with fail
        refine worldI (α := fun W' => Code.wp _ _ _ _ W') (Lay2 w sv ((w3.heap.size, (P.1.1, P.1.2)) :: [(w.heap.size, (x, y)), (w.heap.size + 1, (x2, y2)), (w.heap.size + 2, (x3, y3))]) .nilIface [] 0) (L3.out.add P.1.1 P.1.2) fun W4 L4 => ?_
        obtain ⟨x0, x1⟩ := L4.cells (b := w.heap.size) (p := (x, y)) (by simp)
        replace L4 := Lib.hid L4
        go_wp2_with fail
        refine (hRx.out _).mono ?_; rintro e w6 ⟨rfl, hb⟩
        have L6 := L4.out.next hb
        clear hb x0 x1
        obtain ⟨x0, x1⟩ := L6.cells (b := w.heap.size) (p := (x, y)) (by simp)
        replace L6 := Lib.hid L6
        go_wp2_with fail
        refine (hRx.out _).mono ?_; rintro e w5 ⟨rfl, hb⟩
        have L5 := L6.out.next hb
        clear hb x0 x1
        replace L5 := Lib.hid L5
        go_upto_region 6 with fail
        refine wp_region_lex [(true, 0), (true, 2), (true, 5), (true, 6), (true, 7), (false, 1), (false, 3), (true, 4), (true, 8), (true, 9), (false, 10), (true, 11), (true, 12)] (fun W : World => (W.cell? ⟨w.heap.size, 0, none⟩ = some (.int .i64 x) ∧ W.cell? ⟨w.heap.size, 1, none⟩ = some (.int .i64 y)) ∧ (W.cell? ⟨(w.heap.size + 1), 0, none⟩ = some (.int .i64 x2) ∧ W.cell? ⟨(w.heap.size + 1), 1, none⟩ = some (.int .i64 y2))) (by kernel_rfl) (by kernel_rfl) (fun R hR => ?_)
        have q0 := (L5.out).drew
        have hHeld : (fun W : World => (W.cell? ⟨w.heap.size, 0, none⟩ = some (.int .i64 x) ∧ W.cell? ⟨w.heap.size, 1, none⟩ = some (.int .i64 y)) ∧ (W.cell? ⟨(w.heap.size + 1), 0, none⟩ = some (.int .i64 x2) ∧ W.cell? ⟨(w.heap.size + 1), 1, none⟩ = some (.int .i64 y2))) _ := ⟨q0.cells (b := w.heap.size) (p := (x, y)) (by simp), q0.cells (b := (w.heap.size + 1)) (p := (x2, y2)) (by simp)⟩
        replace q0 := Lib.hid q0
        repeat (first | (refine lex_take (v := ?_) rfl (by rfl) (by assumption) ?_ ?_; rotate_left 1; (focus (intro w hSw; (try dsimp only at hSw); go_simp; (try with_reducible rfl))); (try simp only [Act.put, List.setIfInBounds_toArray, List.set_cons_zero, List.set_cons_succ])) | (refine lex_pass rfl (by rfl) (by assumption) ?_; (try simp only [Act.put, List.setIfInBounds_toArray, List.set_cons_zero, List.set_cons_succ])))
        (refine lex_call rfl (by rfl) (fun K hq => ?_); go_simp)
        go_at_call 15
        refine (hPa.out _ q0.out.below).mono ?_; rintro e v1 ⟨rfl, hb1⟩
        have q1 := Lay2.next q0.out hb1
        clear hHeld hb1 q0
        have hHeld : (fun W : World => (W.cell? ⟨w.heap.size, 0, none⟩ = some (.int .i64 x) ∧ W.cell? ⟨w.heap.size, 1, none⟩ = some (.int .i64 y)) ∧ (W.cell? ⟨(w.heap.size + 1), 0, none⟩ = some (.int .i64 x2) ∧ W.cell? ⟨(w.heap.size + 1), 1, none⟩ = some (.int .i64 y2))) v1 := ⟨q1.cells (b := w.heap.size) (p := (x, y)) (by simp), q1.cells (b := (w.heap.size + 1)) (p := (x2, y2)) (by simp)⟩
        replace q1 := Lib.hid q1
        go_wp2_with fail
        (refine hq.out _ _ (fun W : World => (W.cell? ⟨w.heap.size, 0, none⟩ = some (.int .i64 x) ∧ W.cell? ⟨w.heap.size, 1, none⟩ = some (.int .i64 y)) ∧ (W.cell? ⟨(w.heap.size + 1), 0, none⟩ = some (.int .i64 x2) ∧ W.cell? ⟨(w.heap.size + 1), 1, none⟩ = some (.int .i64 y2))) (fun _ h => h) hHeld ?_; clear hq K; (try simp only [Act.put, List.setIfInBounds_toArray, List.set_cons_zero, List.set_cons_succ]))
        repeat (first | (refine lex_take (v := ?_) rfl (by rfl) (by assumption) ?_ ?_; rotate_left 1; (focus (intro w hSw; (try dsimp only at hSw); go_simp; (try with_reducible rfl))); (try simp only [Act.put, List.setIfInBounds_toArray, List.set_cons_zero, List.set_cons_succ])) | (refine lex_pass rfl (by rfl) (by assumption) ?_; (try simp only [Act.put, List.setIfInBounds_toArray, List.set_cons_zero, List.set_cons_succ])))
        (refine lex_call rfl (by rfl) (fun K hq => ?_); go_simp)
        go_at_call 15
        refine (hPb.out _ q1.out.below).mono ?_; rintro e v2 ⟨rfl, hb2⟩
        have q2 := Lay2.next q1.out hb2
        clear hHeld hb2 q1
        have hHeld : (fun W : World => (W.cell? ⟨w.heap.size, 0, none⟩ = some (.int .i64 x) ∧ W.cell? ⟨w.heap.size, 1, none⟩ = some (.int .i64 y)) ∧ (W.cell? ⟨(w.heap.size + 1), 0, none⟩ = some (.int .i64 x2) ∧ W.cell? ⟨(w.heap.size + 1), 1, none⟩ = some (.int .i64 y2))) v2 := ⟨q2.cells (b := w.heap.size) (p := (x, y)) (by simp), q2.cells (b := (w.heap.size + 1)) (p := (x2, y2)) (by simp)⟩
        replace q2 := Lib.hid q2
        go_wp2_with fail
        (refine hq.out _ _ (fun W : World => (W.cell? ⟨w.heap.size, 0, none⟩ = some (.int .i64 x) ∧ W.cell? ⟨w.heap.size, 1, none⟩ = some (.int .i64 y)) ∧ (W.cell? ⟨(w.heap.size + 1), 0, none⟩ = some (.int .i64 x2) ∧ W.cell? ⟨(w.heap.size + 1), 1, none⟩ = some (.int .i64 y2))) (fun _ h => h) hHeld ?_; clear hq K; (try simp only [Act.put, List.setIfInBounds_toArray, List.set_cons_zero, List.set_cons_succ]))
        repeat (first | (refine lex_take (v := ?_) rfl (by rfl) (by assumption) ?_ ?_; rotate_left 1; (focus (intro w hSw; (try dsimp only at hSw); go_simp; (try with_reducible rfl))); (try simp only [Act.put, List.setIfInBounds_toArray, List.set_cons_zero, List.set_cons_succ])) | (refine lex_pass rfl (by rfl) (by assumption) ?_; (try simp only [Act.put, List.setIfInBounds_toArray, List.set_cons_zero, List.set_cons_succ])))
        (refine lex_call rfl (by rfl) (fun K hq => ?_); go_simp)
        go_at_call 8
        refine (hAw.out _ q2.out.below).mono ?_; rintro e v3 ⟨rfl, hb3⟩
        have q3 := Lay2.next q2.out hb3
        clear hHeld hb3 q2
        have hHeld : (fun W : World => (W.cell? ⟨w.heap.size, 0, none⟩ = some (.int .i64 x) ∧ W.cell? ⟨w.heap.size, 1, none⟩ = some (.int .i64 y)) ∧ (W.cell? ⟨(w.heap.size + 1), 0, none⟩ = some (.int .i64 x2) ∧ W.cell? ⟨(w.heap.size + 1), 1, none⟩ = some (.int .i64 y2))) v3 := ⟨q3.cells (b := w.heap.size) (p := (x, y)) (by simp), q3.cells (b := (w.heap.size + 1)) (p := (x2, y2)) (by simp)⟩
        replace q3 := Lib.hid q3
        go_wp2_with fail
        (refine hq.out _ _ (fun W : World => (W.cell? ⟨w.heap.size, 0, none⟩ = some (.int .i64 x) ∧ W.cell? ⟨w.heap.size, 1, none⟩ = some (.int .i64 y)) ∧ (W.cell? ⟨(w.heap.size + 1), 0, none⟩ = some (.int .i64 x2) ∧ W.cell? ⟨(w.heap.size + 1), 1, none⟩ = some (.int .i64 y2))) (fun _ h => h) hHeld ?_; clear hq K; (try simp only [Act.put, List.setIfInBounds_toArray, List.set_cons_zero, List.set_cons_succ]))
        repeat (first | (refine lex_take (v := ?_) rfl (by rfl) (by assumption) ?_ ?_; rotate_left 1; (focus (intro w hSw; (try dsimp only at hSw); go_simp; (try with_reducible rfl))); (try simp only [Act.put, List.setIfInBounds_toArray, List.set_cons_zero, List.set_cons_succ])) | (refine lex_pass rfl (by rfl) (by assumption) ?_; (try simp only [Act.put, List.setIfInBounds_toArray, List.set_cons_zero, List.set_cons_succ])))
        refine lex_end ?_
        refine hR.out _ _ ?_
        clear hR R
        go_wp2_with fail
        go_ret
        exact ⟨rfl, q3.out.below⟩
      · have hP4 := hright rfl
        subst hP4
        clear hwrong hright
        replace hRx := Lib.hid hRx
        go_enter Tryz.func4, Tryz.ntmps4
        go_upto_region 1 with fail
        refine wp_region_lex [(true, 0), (true, 1), (true, 2), (true, 3), (true, 4), (false, 5), (true, 6), (true, 7), (true, 8), (true, 9), (false, 10), (true, 11), (true, 12), (true, 13), (true, 14), (true, 15), (true, 16), (false, 17), (true, 18), (true, 19), (true, 20), (false, 21), (true, 22), (true, 23), (true, 24), (true, 25), (true, 26), (false, 27), (true, 28), (true, 29), (true, 30), (false, 31), (true, 32), (true, 33), (true, 34), (true, 35), (false, 36), (true, 37), (true, 38), (true, 39)] (fun W : World => (W.cell? ⟨w.heap.size, 0, none⟩ = some (.int .i64 x) ∧ W.cell? ⟨w.heap.size, 1, none⟩ = some (.int .i64 y)) ∧ (W.cell? ⟨(w.heap.size + 1), 0, none⟩ = some (.int .i64 x2) ∧ W.cell? ⟨(w.heap.size + 1), 1, none⟩ = some (.int .i64 y2)) ∧ (W.cell? ⟨(w.heap.size + 2), 0, none⟩ = some (.int .i64 x3) ∧ W.cell? ⟨(w.heap.size + 2), 1, none⟩ = some (.int .i64 y3))) (by kernel_rfl) (by kernel_rfl) (fun R hR => ?_)
        have q0 := (L0.out).drew
        have hHeld : (fun W : World => (W.cell? ⟨w.heap.size, 0, none⟩ = some (.int .i64 x) ∧ W.cell? ⟨w.heap.size, 1, none⟩ = some (.int .i64 y)) ∧ (W.cell? ⟨(w.heap.size + 1), 0, none⟩ = some (.int .i64 x2) ∧ W.cell? ⟨(w.heap.size + 1), 1, none⟩ = some (.int .i64 y2)) ∧ (W.cell? ⟨(w.heap.size + 2), 0, none⟩ = some (.int .i64 x3) ∧ W.cell? ⟨(w.heap.size + 2), 1, none⟩ = some (.int .i64 y3))) _ := ⟨q0.cells (b := w.heap.size) (p := (x, y)) (by simp), q0.cells (b := (w.heap.size + 1)) (p := (x2, y2)) (by simp), q0.cells (b := (w.heap.size + 2)) (p := (x3, y3)) (by simp)⟩
        replace q0 := Lib.hid q0
        repeat (first | (refine lex_take (v := ?_) rfl (by rfl) (by assumption) ?_ ?_; rotate_left 1; (focus (intro w hSw; (try dsimp only at hSw); go_simp; (try with_reducible rfl))); (try simp only [Act.put, List.setIfInBounds_toArray, List.set_cons_zero, List.set_cons_succ])) | (refine lex_pass rfl (by rfl) (by assumption) ?_; (try simp only [Act.put, List.setIfInBounds_toArray, List.set_cons_zero, List.set_cons_succ])))
        (refine lex_call rfl (by rfl) (fun K hq => ?_); go_simp)
        go_at_call 13
        refine (hAB.out _).mono ?_; rintro e v1 ⟨rfl, hb1⟩
        have q1 := Lay2.next q0.out hb1
        clear hHeld hb1 q0
        have hHeld : (fun W : World => (W.cell? ⟨w.heap.size, 0, none⟩ = some (.int .i64 x) ∧ W.cell? ⟨w.heap.size, 1, none⟩ = some (.int .i64 y)) ∧ (W.cell? ⟨(w.heap.size + 1), 0, none⟩ = some (.int .i64 x2) ∧ W.cell? ⟨(w.heap.size + 1), 1, none⟩ = some (.int .i64 y2)) ∧ (W.cell? ⟨(w.heap.size + 2), 0, none⟩ = some (.int .i64 x3) ∧ W.cell? ⟨(w.heap.size + 2), 1, none⟩ = some (.int .i64 y3))) v1 := ⟨q1.cells (b := w.heap.size) (p := (x, y)) (by simp), q1.cells (b := (w.heap.size + 1)) (p := (x2, y2)) (by simp), q1.cells (b := (w.heap.size + 2)) (p := (x3, y3)) (by simp)⟩
        replace q1 := Lib.hid q1
        go_wp2_with fail
        (refine hq.out _ _ (fun W : World => (W.cell? ⟨w.heap.size, 0, none⟩ = some (.int .i64 x) ∧ W.cell? ⟨w.heap.size, 1, none⟩ = some (.int .i64 y)) ∧ (W.cell? ⟨(w.heap.size + 1), 0, none⟩ = some (.int .i64 x2) ∧ W.cell? ⟨(w.heap.size + 1), 1, none⟩ = some (.int .i64 y2)) ∧ (W.cell? ⟨(w.heap.size + 2), 0, none⟩ = some (.int .i64 x3) ∧ W.cell? ⟨(w.heap.size + 2), 1, none⟩ = some (.int .i64 y3))) (fun _ h => h) hHeld ?_; clear hq K; (try simp only [Act.put, List.setIfInBounds_toArray, List.set_cons_zero, List.set_cons_succ]))
        repeat (first | (refine lex_take (v := ?_) rfl (by rfl) (by assumption) ?_ ?_; rotate_left 1; (focus (intro w hSw; (try dsimp only at hSw); go_simp; (try with_reducible rfl))); (try simp only [Act.put, List.setIfInBounds_toArray, List.set_cons_zero, List.set_cons_succ])) | (refine lex_pass rfl (by rfl) (by assumption) ?_; (try simp only [Act.put, List.setIfInBounds_toArray, List.set_cons_zero, List.set_cons_succ])))
        (refine lex_call rfl (by rfl) (fun K hq => ?_); go_simp)
        go_at_call 13
        refine (hBA.out _).mono ?_; rintro e v2 ⟨rfl, hb2⟩
        have q2 := Lay2.next q1.out hb2
        clear hHeld hb2 q1
        have hHeld : (fun W : World => (W.cell? ⟨w.heap.size, 0, none⟩ = some (.int .i64 x) ∧ W.cell? ⟨w.heap.size, 1, none⟩ = some (.int .i64 y)) ∧ (W.cell? ⟨(w.heap.size + 1), 0, none⟩ = some (.int .i64 x2) ∧ W.cell? ⟨(w.heap.size + 1), 1, none⟩ = some (.int .i64 y2)) ∧ (W.cell? ⟨(w.heap.size + 2), 0, none⟩ = some (.int .i64 x3) ∧ W.cell? ⟨(w.heap.size + 2), 1, none⟩ = some (.int .i64 y3))) v2 := ⟨q2.cells (b := w.heap.size) (p := (x, y)) (by simp), q2.cells (b := (w.heap.size + 1)) (p := (x2, y2)) (by simp), q2.cells (b := (w.heap.size + 2)) (p := (x3, y3)) (by simp)⟩
        replace q2 := Lib.hid q2
        go_wp2_with fail
        (refine hq.out _ _ (fun W : World => (W.cell? ⟨w.heap.size, 0, none⟩ = some (.int .i64 x) ∧ W.cell? ⟨w.heap.size, 1, none⟩ = some (.int .i64 y)) ∧ (W.cell? ⟨(w.heap.size + 1), 0, none⟩ = some (.int .i64 x2) ∧ W.cell? ⟨(w.heap.size + 1), 1, none⟩ = some (.int .i64 y2)) ∧ (W.cell? ⟨(w.heap.size + 2), 0, none⟩ = some (.int .i64 x3) ∧ W.cell? ⟨(w.heap.size + 2), 1, none⟩ = some (.int .i64 y3))) (fun _ h => h) hHeld ?_; clear hq K; (try simp only [Act.put, List.setIfInBounds_toArray, List.set_cons_zero, List.set_cons_succ]))
        repeat (first | (refine lex_take (v := ?_) rfl (by rfl) (by assumption) ?_ ?_; rotate_left 1; (focus (intro w hSw; (try dsimp only at hSw); go_simp; (try with_reducible rfl))); (try simp only [Act.put, List.setIfInBounds_toArray, List.set_cons_zero, List.set_cons_succ])) | (refine lex_pass rfl (by rfl) (by assumption) ?_; (try simp only [Act.put, List.setIfInBounds_toArray, List.set_cons_zero, List.set_cons_succ])))
        (refine lex_call rfl (by rfl) (fun K hq => ?_); go_simp)
        go_at_call 13
        refine (hAB.out _).mono ?_; rintro e v3 ⟨rfl, hb3⟩
        have q3 := Lay2.next q2.out hb3
        clear hHeld hb3 q2
        have hHeld : (fun W : World => (W.cell? ⟨w.heap.size, 0, none⟩ = some (.int .i64 x) ∧ W.cell? ⟨w.heap.size, 1, none⟩ = some (.int .i64 y)) ∧ (W.cell? ⟨(w.heap.size + 1), 0, none⟩ = some (.int .i64 x2) ∧ W.cell? ⟨(w.heap.size + 1), 1, none⟩ = some (.int .i64 y2)) ∧ (W.cell? ⟨(w.heap.size + 2), 0, none⟩ = some (.int .i64 x3) ∧ W.cell? ⟨(w.heap.size + 2), 1, none⟩ = some (.int .i64 y3))) v3 := ⟨q3.cells (b := w.heap.size) (p := (x, y)) (by simp), q3.cells (b := (w.heap.size + 1)) (p := (x2, y2)) (by simp), q3.cells (b := (w.heap.size + 2)) (p := (x3, y3)) (by simp)⟩
        replace q3 := Lib.hid q3
        go_wp2_with fail
        (refine hq.out _ _ (fun W : World => (W.cell? ⟨w.heap.size, 0, none⟩ = some (.int .i64 x) ∧ W.cell? ⟨w.heap.size, 1, none⟩ = some (.int .i64 y)) ∧ (W.cell? ⟨(w.heap.size + 1), 0, none⟩ = some (.int .i64 x2) ∧ W.cell? ⟨(w.heap.size + 1), 1, none⟩ = some (.int .i64 y2)) ∧ (W.cell? ⟨(w.heap.size + 2), 0, none⟩ = some (.int .i64 x3) ∧ W.cell? ⟨(w.heap.size + 2), 1, none⟩ = some (.int .i64 y3))) (fun _ h => h) hHeld ?_; clear hq K; (try simp only [Act.put, List.setIfInBounds_toArray, List.set_cons_zero, List.set_cons_succ]))
        repeat (first | (refine lex_take (v := ?_) rfl (by rfl) (by assumption) ?_ ?_; rotate_left 1; (focus (intro w hSw; (try dsimp only at hSw); go_simp; (try with_reducible rfl))); (try simp only [Act.put, List.setIfInBounds_toArray, List.set_cons_zero, List.set_cons_succ])) | (refine lex_pass rfl (by rfl) (by assumption) ?_; (try simp only [Act.put, List.setIfInBounds_toArray, List.set_cons_zero, List.set_cons_succ])))
        (refine lex_call rfl (by rfl) (fun K hq => ?_); go_simp)
        go_at_call 13
        refine (hAB.out _).mono ?_; rintro e v4 ⟨rfl, hb4⟩
        have q4 := Lay2.next q3.out hb4
        clear hHeld hb4 q3
        have hHeld : (fun W : World => (W.cell? ⟨w.heap.size, 0, none⟩ = some (.int .i64 x) ∧ W.cell? ⟨w.heap.size, 1, none⟩ = some (.int .i64 y)) ∧ (W.cell? ⟨(w.heap.size + 1), 0, none⟩ = some (.int .i64 x2) ∧ W.cell? ⟨(w.heap.size + 1), 1, none⟩ = some (.int .i64 y2)) ∧ (W.cell? ⟨(w.heap.size + 2), 0, none⟩ = some (.int .i64 x3) ∧ W.cell? ⟨(w.heap.size + 2), 1, none⟩ = some (.int .i64 y3))) v4 := ⟨q4.cells (b := w.heap.size) (p := (x, y)) (by simp), q4.cells (b := (w.heap.size + 1)) (p := (x2, y2)) (by simp), q4.cells (b := (w.heap.size + 2)) (p := (x3, y3)) (by simp)⟩
        replace q4 := Lib.hid q4
        go_wp2_with fail
        (refine hq.out _ _ (fun W : World => (W.cell? ⟨w.heap.size, 0, none⟩ = some (.int .i64 x) ∧ W.cell? ⟨w.heap.size, 1, none⟩ = some (.int .i64 y)) ∧ (W.cell? ⟨(w.heap.size + 1), 0, none⟩ = some (.int .i64 x2) ∧ W.cell? ⟨(w.heap.size + 1), 1, none⟩ = some (.int .i64 y2)) ∧ (W.cell? ⟨(w.heap.size + 2), 0, none⟩ = some (.int .i64 x3) ∧ W.cell? ⟨(w.heap.size + 2), 1, none⟩ = some (.int .i64 y3))) (fun _ h => h) hHeld ?_; clear hq K; (try simp only [Act.put, List.setIfInBounds_toArray, List.set_cons_zero, List.set_cons_succ]))
        repeat (first | (refine lex_take (v := ?_) rfl (by rfl) (by assumption) ?_ ?_; rotate_left 1; (focus (intro w hSw; (try dsimp only at hSw); go_simp; (try with_reducible rfl))); (try simp only [Act.put, List.setIfInBounds_toArray, List.set_cons_zero, List.set_cons_succ])) | (refine lex_pass rfl (by rfl) (by assumption) ?_; (try simp only [Act.put, List.setIfInBounds_toArray, List.set_cons_zero, List.set_cons_succ])))
        refine lex_end ?_
        refine hR.out _ _ ?_
        clear hR R
        have L1 := q4
        clear q4
        go_upto_region 3 with fail
        obtain ⟨x0, x1⟩ := L1.out.cells (b := w.heap.size) (p := (x, y)) (by simp)
        go_wp2_with fail
        refine (hPa.out _ L1.out.below).mono ?_; rintro e w2 ⟨rfl, hb⟩
        have L2 := L1.out.next hb
        replace L2 := Lib.hid L2
        clear hb x0 x1
        go_wp2_with fail
        refine (hPs.out _ L2.out.below).mono ?_; rintro e w3 ⟨v, rfl, hv, hb⟩
        have L3 := L2.out.next hb
        clear hb
        obtain ⟨_, rfl⟩ := hv.resolve_right (fun h => h.1 rfl)
        clear hv
        replace L3 := Lib.hid L3
        go_upto_region 4 with fail
        refine worldI (α := fun W' => Code.wp _ _ _ _ W') (Lay2 w sv ((w3.heap.size, (x, y)) :: [(w.heap.size, (x, y)), (w.heap.size + 1, (x2, y2)), (w.heap.size + 2, (x3, y3))]) .nilIface [] 0) (L3.out.add x y) fun W4 L4 => ?_
        obtain ⟨x0, x1⟩ := L4.cells (b := w.heap.size) (p := (x, y)) (by simp)
        replace L4 := Lib.hid L4
        go_wp2_with fail
        refine (hRx.out _).mono ?_; rintro e w6 ⟨rfl, hb⟩
        have L6 := L4.out.next hb
        clear hb x0 x1
        obtain ⟨x0, x1⟩ := L6.cells (b := w.heap.size) (p := (x, y)) (by simp)
        obtain ⟨z0, z1⟩ := L6.cells (b := w3.heap.size) (p := (x, y)) (by simp)
        replace L6 := Lib.hid L6
        go_wp2_with fail
        refine (hRx.out _).mono ?_; rintro e w5 ⟨rfl, hb⟩
        have L5 := L6.out.next hb
        clear hb x0 x1 z0 z1
        replace L5 := Lib.hid L5
        go_upto_region 6 with fail
        refine wp_region_lex [(true, 0), (true, 2), (true, 5), (true, 6), (true, 7), (false, 1), (false, 3), (true, 4), (true, 8), (true, 9), (false, 10), (true, 11), (true, 12)] (fun W : World => (W.cell? ⟨w.heap.size, 0, none⟩ = some (.int .i64 x) ∧ W.cell? ⟨w.heap.size, 1, none⟩ = some (.int .i64 y)) ∧ (W.cell? ⟨(w.heap.size + 1), 0, none⟩ = some (.int .i64 x2) ∧ W.cell? ⟨(w.heap.size + 1), 1, none⟩ = some (.int .i64 y2))) (by kernel_rfl) (by kernel_rfl) (fun R hR => ?_)
        have q0 := (L5.out).drew
        have hHeld : (fun W : World => (W.cell? ⟨w.heap.size, 0, none⟩ = some (.int .i64 x) ∧ W.cell? ⟨w.heap.size, 1, none⟩ = some (.int .i64 y)) ∧ (W.cell? ⟨(w.heap.size + 1), 0, none⟩ = some (.int .i64 x2) ∧ W.cell? ⟨(w.heap.size + 1), 1, none⟩ = some (.int .i64 y2))) _ := ⟨q0.cells (b := w.heap.size) (p := (x, y)) (by simp), q0.cells (b := (w.heap.size + 1)) (p := (x2, y2)) (by simp)⟩
        replace q0 := Lib.hid q0
        repeat (first | (refine lex_take (v := ?_) rfl (by rfl) (by assumption) ?_ ?_; rotate_left 1; (focus (intro w hSw; (try dsimp only at hSw); go_simp; (try with_reducible rfl))); (try simp only [Act.put, List.setIfInBounds_toArray, List.set_cons_zero, List.set_cons_succ])) | (refine lex_pass rfl (by rfl) (by assumption) ?_; (try simp only [Act.put, List.setIfInBounds_toArray, List.set_cons_zero, List.set_cons_succ])))
        (refine lex_call rfl (by rfl) (fun K hq => ?_); go_simp)
        go_at_call 15
        refine (hPa.out _ q0.out.below).mono ?_; rintro e v1 ⟨rfl, hb1⟩
        have q1 := Lay2.next q0.out hb1
        clear hHeld hb1 q0
        have hHeld : (fun W : World => (W.cell? ⟨w.heap.size, 0, none⟩ = some (.int .i64 x) ∧ W.cell? ⟨w.heap.size, 1, none⟩ = some (.int .i64 y)) ∧ (W.cell? ⟨(w.heap.size + 1), 0, none⟩ = some (.int .i64 x2) ∧ W.cell? ⟨(w.heap.size + 1), 1, none⟩ = some (.int .i64 y2))) v1 := ⟨q1.cells (b := w.heap.size) (p := (x, y)) (by simp), q1.cells (b := (w.heap.size + 1)) (p := (x2, y2)) (by simp)⟩
        replace q1 := Lib.hid q1
        go_wp2_with fail
        (refine hq.out _ _ (fun W : World => (W.cell? ⟨w.heap.size, 0, none⟩ = some (.int .i64 x) ∧ W.cell? ⟨w.heap.size, 1, none⟩ = some (.int .i64 y)) ∧ (W.cell? ⟨(w.heap.size + 1), 0, none⟩ = some (.int .i64 x2) ∧ W.cell? ⟨(w.heap.size + 1), 1, none⟩ = some (.int .i64 y2))) (fun _ h => h) hHeld ?_; clear hq K; (try simp only [Act.put, List.setIfInBounds_toArray, List.set_cons_zero, List.set_cons_succ]))
        repeat (first | (refine lex_take (v := ?_) rfl (by rfl) (by assumption) ?_ ?_; rotate_left 1; (focus (intro w hSw; (try dsimp only at hSw); go_simp; (try with_reducible rfl))); (try simp only [Act.put, List.setIfInBounds_toArray, List.set_cons_zero, List.set_cons_succ])) | (refine lex_pass rfl (by rfl) (by assumption) ?_; (try simp only [Act.put, List.setIfInBounds_toArray, List.set_cons_zero, List.set_cons_succ])))
        (refine lex_call rfl (by rfl) (fun K hq => ?_); go_simp)
        go_at_call 15
        refine (hPb.out _ q1.out.below).mono ?_; rintro e v2 ⟨rfl, hb2⟩
        have q2 := Lay2.next q1.out hb2
        clear hHeld hb2 q1
        have hHeld : (fun W : World => (W.cell? ⟨w.heap.size, 0, none⟩ = some (.int .i64 x) ∧ W.cell? ⟨w.heap.size, 1, none⟩ = some (.int .i64 y)) ∧ (W.cell? ⟨(w.heap.size + 1), 0, none⟩ = some (.int .i64 x2) ∧ W.cell? ⟨(w.heap.size + 1), 1, none⟩ = some (.int .i64 y2))) v2 := ⟨q2.cells (b := w.heap.size) (p := (x, y)) (by simp), q2.cells (b := (w.heap.size + 1)) (p := (x2, y2)) (by simp)⟩
        replace q2 := Lib.hid q2
        go_wp2_with fail
        (refine hq.out _ _ (fun W : World => (W.cell? ⟨w.heap.size, 0, none⟩ = some (.int .i64 x) ∧ W.cell? ⟨w.heap.size, 1, none⟩ = some (.int .i64 y)) ∧ (W.cell? ⟨(w.heap.size + 1), 0, none⟩ = some (.int .i64 x2) ∧ W.cell? ⟨(w.heap.size + 1), 1, none⟩ = some (.int .i64 y2))) (fun _ h => h) hHeld ?_; clear hq K; (try simp only [Act.put, List.setIfInBounds_toArray, List.set_cons_zero, List.set_cons_succ]))
        repeat (first | (refine lex_take (v := ?_) rfl (by rfl) (by assumption) ?_ ?_; rotate_left 1; (focus (intro w hSw; (try dsimp only at hSw); go_simp; (try with_reducible rfl))); (try simp only [Act.put, List.setIfInBounds_toArray, List.set_cons_zero, List.set_cons_succ])) | (refine lex_pass rfl (by rfl) (by assumption) ?_; (try simp only [Act.put, List.setIfInBounds_toArray, List.set_cons_zero, List.set_cons_succ])))
        (refine lex_call rfl (by rfl) (fun K hq => ?_); go_simp)
        go_at_call 8
        refine (hAw.out _ q2.out.below).mono ?_; rintro e v3 ⟨rfl, hb3⟩
        have q3 := Lay2.next q2.out hb3
        clear hHeld hb3 q2
        have hHeld : (fun W : World => (W.cell? ⟨w.heap.size, 0, none⟩ = some (.int .i64 x) ∧ W.cell? ⟨w.heap.size, 1, none⟩ = some (.int .i64 y)) ∧ (W.cell? ⟨(w.heap.size + 1), 0, none⟩ = some (.int .i64 x2) ∧ W.cell? ⟨(w.heap.size + 1), 1, none⟩ = some (.int .i64 y2))) v3 := ⟨q3.cells (b := w.heap.size) (p := (x, y)) (by simp), q3.cells (b := (w.heap.size + 1)) (p := (x2, y2)) (by simp)⟩
        replace q3 := Lib.hid q3
        go_wp2_with fail
        (refine hq.out _ _ (fun W : World => (W.cell? ⟨w.heap.size, 0, none⟩ = some (.int .i64 x) ∧ W.cell? ⟨w.heap.size, 1, none⟩ = some (.int .i64 y)) ∧ (W.cell? ⟨(w.heap.size + 1), 0, none⟩ = some (.int .i64 x2) ∧ W.cell? ⟨(w.heap.size + 1), 1, none⟩ = some (.int .i64 y2))) (fun _ h => h) hHeld ?_; clear hq K; (try simp only [Act.put, List.setIfInBounds_toArray, List.set_cons_zero, List.set_cons_succ]))
        repeat (first | (refine lex_take (v := ?_) rfl (by rfl) (by assumption) ?_ ?_; rotate_left 1; (focus (intro w hSw; (try dsimp only at hSw); go_simp; (try with_reducible rfl))); (try simp only [Act.put, List.setIfInBounds_toArray, List.set_cons_zero, List.set_cons_succ])) | (refine lex_pass rfl (by rfl) (by assumption) ?_; (try simp only [Act.put, List.setIfInBounds_toArray, List.set_cons_zero, List.set_cons_succ])))
        refine lex_end ?_
        refine hR.out _ _ ?_
        clear hR R
        go_wp2_with fail
        go_ret
        exact ⟨rfl, q3.out.below⟩
    · subst h0
      cases rx
      · have hP4 := Lib.hid (hwrong rfl)
        clear hwrong hright
        replace hRx := Lib.hid hRx
        go_enter Tryz.func4, Tryz.ntmps4
        go_upto_region 1 with fail
        refine wp_region_lex [(true, 0), (true, 1), (true, 2), (true, 3), (true, 4), (false, 5), (true, 6), (true, 7), (true, 8), (true, 9), (false, 10), (true, 11), (true, 12), (true, 13), (true, 14), (true, 15), (true, 16), (false, 17), (true, 18), (true, 19), (true, 20), (false, 21), (true, 22), (true, 23), (true, 24), (true, 25), (true, 26), (false, 27), (true, 28), (true, 29), (true, 30), (false, 31), (true, 32), (true, 33), (true, 34), (true, 35), (false, 36), (true, 37), (true, 38), (true, 39)] (fun W : World => (W.cell? ⟨w.heap.size, 0, none⟩ = some (.int .i64 x) ∧ W.cell? ⟨w.heap.size, 1, none⟩ = some (.int .i64 y)) ∧ (W.cell? ⟨(w.heap.size + 1), 0, none⟩ = some (.int .i64 x) ∧ W.cell? ⟨(w.heap.size + 1), 1, none⟩ = some (.int .i64 y2)) ∧ (W.cell? ⟨(w.heap.size + 2), 0, none⟩ = some (.int .i64 x3) ∧ W.cell? ⟨(w.heap.size + 2), 1, none⟩ = some (.int .i64 y3))) (by kernel_rfl) (by kernel_rfl) (fun R hR => ?_)
        have q0 := (L0.out).drew
        have hHeld : (fun W : World => (W.cell? ⟨w.heap.size, 0, none⟩ = some (.int .i64 x) ∧ W.cell? ⟨w.heap.size, 1, none⟩ = some (.int .i64 y)) ∧ (W.cell? ⟨(w.heap.size + 1), 0, none⟩ = some (.int .i64 x) ∧ W.cell? ⟨(w.heap.size + 1), 1, none⟩ = some (.int .i64 y2)) ∧ (W.cell? ⟨(w.heap.size + 2), 0, none⟩ = some (.int .i64 x3) ∧ W.cell? ⟨(w.heap.size + 2), 1, none⟩ = some (.int .i64 y3))) _ := ⟨q0.cells (b := w.heap.size) (p := (x, y)) (by simp), q0.cells (b := (w.heap.size + 1)) (p := (x, y2)) (by simp), q0.cells (b := (w.heap.size + 2)) (p := (x3, y3)) (by simp)⟩
        replace q0 := Lib.hid q0
        repeat (first | (refine lex_take (v := ?_) rfl (by rfl) (by assumption) ?_ ?_; rotate_left 1; (focus (intro w hSw; (try dsimp only at hSw); go_simp; (try with_reducible rfl))); (try simp only [Act.put, List.setIfInBounds_toArray, List.set_cons_zero, List.set_cons_succ])) | (refine lex_pass rfl (by rfl) (by assumption) ?_; (try simp only [Act.put, List.setIfInBounds_toArray, List.set_cons_zero, List.set_cons_succ])))
        (refine lex_call rfl (by rfl) (fun K hq => ?_); go_simp)
        go_at_call 13
        refine (hAB.out _).mono ?_; rintro e v1 ⟨rfl, hb1⟩
        have q1 := Lay2.next q0.out hb1
        clear hHeld hb1 q0
        have hHeld : (fun W : World => (W.cell? ⟨w.heap.size, 0, none⟩ = some (.int .i64 x) ∧ W.cell? ⟨w.heap.size, 1, none⟩ = some (.int .i64 y)) ∧ (W.cell? ⟨(w.heap.size + 1), 0, none⟩ = some (.int .i64 x) ∧ W.cell? ⟨(w.heap.size + 1), 1, none⟩ = some (.int .i64 y2)) ∧ (W.cell? ⟨(w.heap.size + 2), 0, none⟩ = some (.int .i64 x3) ∧ W.cell? ⟨(w.heap.size + 2), 1, none⟩ = some (.int .i64 y3))) v1 := ⟨q1.cells (b := w.heap.size) (p := (x, y)) (by simp), q1.cells (b := (w.heap.size + 1)) (p := (x, y2)) (by simp), q1.cells (b := (w.heap.size + 2)) (p := (x3, y3)) (by simp)⟩
        replace q1 := Lib.hid q1
        go_wp2_with fail
        (refine hq.out _ _ (fun W : World => (W.cell? ⟨w.heap.size, 0, none⟩ = some (.int .i64 x) ∧ W.cell? ⟨w.heap.size, 1, none⟩ = some (.int .i64 y)) ∧ (W.cell? ⟨(w.heap.size + 1), 0, none⟩ = some (.int .i64 x) ∧ W.cell? ⟨(w.heap.size + 1), 1, none⟩ = some (.int .i64 y2)) ∧ (W.cell? ⟨(w.heap.size + 2), 0, none⟩ = some (.int .i64 x3) ∧ W.cell? ⟨(w.heap.size + 2), 1, none⟩ = some (.int .i64 y3))) (fun _ h => h) hHeld ?_; clear hq K; (try simp only [Act.put, List.setIfInBounds_toArray, List.set_cons_zero, List.set_cons_succ]))
        repeat (first | (refine lex_take (v := ?_) rfl (by rfl) (by assumption) ?_ ?_; rotate_left 1; (focus (intro w hSw; (try dsimp only at hSw); go_simp; (try with_reducible rfl))); (try simp only [Act.put, List.setIfInBounds_toArray, List.set_cons_zero, List.set_cons_succ])) | (refine lex_pass rfl (by rfl) (by assumption) ?_; (try simp only [Act.put, List.setIfInBounds_toArray, List.set_cons_zero, List.set_cons_succ])))
        (refine lex_call rfl (by rfl) (fun K hq => ?_); go_simp)
        go_at_call 13
        refine (hBA.out _).mono ?_; rintro e v2 ⟨rfl, hb2⟩
        have q2 := Lay2.next q1.out hb2
        clear hHeld hb2 q1
        have hHeld : (fun W : World => (W.cell? ⟨w.heap.size, 0, none⟩ = some (.int .i64 x) ∧ W.cell? ⟨w.heap.size, 1, none⟩ = some (.int .i64 y)) ∧ (W.cell? ⟨(w.heap.size + 1), 0, none⟩ = some (.int .i64 x) ∧ W.cell? ⟨(w.heap.size + 1), 1, none⟩ = some (.int .i64 y2)) ∧ (W.cell? ⟨(w.heap.size + 2), 0, none⟩ = some (.int .i64 x3) ∧ W.cell? ⟨(w.heap.size + 2), 1, none⟩ = some (.int .i64 y3))) v2 := ⟨q2.cells (b := w.heap.size) (p := (x, y)) (by simp), q2.cells (b := (w.heap.size + 1)) (p := (x, y2)) (by simp), q2.cells (b := (w.heap.size + 2)) (p := (x3, y3)) (by simp)⟩
        replace q2 := Lib.hid q2
        go_wp2_with fail
        (refine hq.out _ _ (fun W : World => (W.cell? ⟨w.heap.size, 0, none⟩ = some (.int .i64 x) ∧ W.cell? ⟨w.heap.size, 1, none⟩ = some (.int .i64 y)) ∧ (W.cell? ⟨(w.heap.size + 1), 0, none⟩ = some (.int .i64 x) ∧ W.cell? ⟨(w.heap.size + 1), 1, none⟩ = some (.int .i64 y2)) ∧ (W.cell? ⟨(w.heap.size + 2), 0, none⟩ = some (.int .i64 x3) ∧ W.cell? ⟨(w.heap.size + 2), 1, none⟩ = some (.int .i64 y3))) (fun _ h => h) hHeld ?_; clear hq K; (try simp only [Act.put, List.setIfInBounds_toArray, List.set_cons_zero, List.set_cons_succ]))
        repeat (first | (refine lex_take (v := ?_) rfl (by rfl) (by assumption) ?_ ?_; rotate_left 1; (focus (intro w hSw; (try dsimp only at hSw); go_simp; (try with_reducible rfl))); (try simp only [Act.put, List.setIfInBounds_toArray, List.set_cons_zero, List.set_cons_succ])) | (refine lex_pass rfl (by rfl) (by assumption) ?_; (try simp only [Act.put, List.setIfInBounds_toArray, List.set_cons_zero, List.set_cons_succ])))
        (refine lex_call rfl (by rfl) (fun K hq => ?_); go_simp)
        go_at_call 13
        refine (hAB.out _).mono ?_; rintro e v3 ⟨rfl, hb3⟩
        have q3 := Lay2.next q2.out hb3
        clear hHeld hb3 q2
        have hHeld : (fun W : World => (W.cell? ⟨w.heap.size, 0, none⟩ = some (.int .i64 x) ∧ W.cell? ⟨w.heap.size, 1, none⟩ = some (.int .i64 y)) ∧ (W.cell? ⟨(w.heap.size + 1), 0, none⟩ = some (.int .i64 x) ∧ W.cell? ⟨(w.heap.size + 1), 1, none⟩ = some (.int .i64 y2)) ∧ (W.cell? ⟨(w.heap.size + 2), 0, none⟩ = some (.int .i64 x3) ∧ W.cell? ⟨(w.heap.size + 2), 1, none⟩ = some (.int .i64 y3))) v3 := ⟨q3.cells (b := w.heap.size) (p := (x, y)) (by simp), q3.cells (b := (w.heap.size + 1)) (p := (x, y2)) (by simp), q3.cells (b := (w.heap.size + 2)) (p := (x3, y3)) (by simp)⟩
        replace q3 := Lib.hid q3
        go_wp2_with fail
        (refine hq.out _ _ (fun W : World => (W.cell? ⟨w.heap.size, 0, none⟩ = some (.int .i64 x) ∧ W.cell? ⟨w.heap.size, 1, none⟩ = some (.int .i64 y)) ∧ (W.cell? ⟨(w.heap.size + 1), 0, none⟩ = some (.int .i64 x) ∧ W.cell? ⟨(w.heap.size + 1), 1, none⟩ = some (.int .i64 y2)) ∧ (W.cell? ⟨(w.heap.size + 2), 0, none⟩ = some (.int .i64 x3) ∧ W.cell? ⟨(w.heap.size + 2), 1, none⟩ = some (.int .i64 y3))) (fun _ h => h) hHeld ?_; clear hq K; (try simp only [Act.put, List.setIfInBounds_toArray, List.set_cons_zero, List.set_cons_succ]))
        repeat (first | (refine lex_take (v := ?_) rfl (by rfl) (by assumption) ?_ ?_; rotate_left 1; (focus (intro w hSw; (try dsimp only at hSw); go_simp; (try with_reducible rfl))); (try simp only [Act.put, List.setIfInBounds_toArray, List.set_cons_zero, List.set_cons_succ])) | (refine lex_pass rfl (by rfl) (by assumption) ?_; (try simp only [Act.put, List.setIfInBounds_toArray, List.set_cons_zero, List.set_cons_succ])))
        (refine lex_call rfl (by rfl) (fun K hq => ?_); go_simp)
        go_at_call 13
        refine (hAB.out _).mono ?_; rintro e v4 ⟨rfl, hb4⟩
        have q4 := Lay2.next q3.out hb4
        clear hHeld hb4 q3
        have hHeld : (fun W : World => (W.cell? ⟨w.heap.size, 0, none⟩ = some (.int .i64 x) ∧ W.cell? ⟨w.heap.size, 1, none⟩ = some (.int .i64 y)) ∧ (W.cell? ⟨(w.heap.size + 1), 0, none⟩ = some (.int .i64 x) ∧ W.cell? ⟨(w.heap.size + 1), 1, none⟩ = some (.int .i64 y2)) ∧ (W.cell? ⟨(w.heap.size + 2), 0, none⟩ = some (.int .i64 x3) ∧ W.cell? ⟨(w.heap.size + 2), 1, none⟩ = some (.int .i64 y3))) v4 := ⟨q4.cells (b := w.heap.size) (p := (x, y)) (by simp), q4.cells (b := (w.heap.size + 1)) (p := (x, y2)) (by simp), q4.cells (b := (w.heap.size + 2)) (p := (x3, y3)) (by simp)⟩
        replace q4 := Lib.hid q4
        go_wp2_with fail
        (refine hq.out _ _ (fun W : World => (W.cell? ⟨w.heap.size, 0, none⟩ = some (.int .i64 x) ∧ W.cell? ⟨w.heap.size, 1, none⟩ = some (.int .i64 y)) ∧ (W.cell? ⟨(w.heap.size + 1), 0, none⟩ = some (.int .i64 x) ∧ W.cell? ⟨(w.heap.size + 1), 1, none⟩ = some (.int .i64 y2)) ∧ (W.cell? ⟨(w.heap.size + 2), 0, none⟩ = some (.int .i64 x3) ∧ W.cell? ⟨(w.heap.size + 2), 1, none⟩ = some (.int .i64 y3))) (fun _ h => h) hHeld ?_; clear hq K; (try simp only [Act.put, List.setIfInBounds_toArray, List.set_cons_zero, List.set_cons_succ]))
        repeat (first | (refine lex_take (v := ?_) rfl (by rfl) (by assumption) ?_ ?_; rotate_left 1; (focus (intro w hSw; (try dsimp only at hSw); go_simp; (try with_reducible rfl))); (try simp only [Act.put, List.setIfInBounds_toArray, List.set_cons_zero, List.set_cons_succ])) | (refine lex_pass rfl (by rfl) (by assumption) ?_; (try simp only [Act.put, List.setIfInBounds_toArray, List.set_cons_zero, List.set_cons_succ])))
        refine lex_end ?_
        refine hR.out _ _ ?_
        clear hR R
        have L1 := q4
        clear q4
        go_upto_region 3 with fail
        obtain ⟨x0, x1⟩ := L1.out.cells (b := w.heap.size) (p := (x, y)) (by simp)
        go_wp2_with fail
        refine (hPa.out _ L1.out.below).mono ?_; rintro e w2 ⟨rfl, hb⟩
        have L2 := L1.out.next hb
        replace L2 := Lib.hid L2
        clear hb x0 x1
        go_wp2_with fail
        refine (hPs.out _ L2.out.below).mono ?_; rintro e w3 ⟨v, rfl, hv, hb⟩
        have L3 := L2.out.next hb
        clear hb
        obtain ⟨_, hv3, _⟩ := hv.resolve_left (fun h => by have h1 := h.1; rw [hP4.out] at h1; exact absurd h1 (by decide))
        obtain ⟨ty, u, rfl⟩ := hv3.iface
        clear hv hv3
        replace L3 := Lib.hid L3
        go_upto_region 4 with fail
        refine worldI (α := fun W' => Code.wp _ _ _ _ W') (Lay2 w sv ((w3.heap.size, (P.1.1, P.1.2)) :: [(w.heap.size, (x, y)), (w.heap.size + 1, (x, y2)), (w.heap.size + 2, (x3, y3))]) .nilIface [] 0) (L3.out.add P.1.1 P.1.2) fun W4 L4 => ?_
        obtain ⟨x0, x1⟩ := L4.cells (b := w.heap.size) (p := (x, y)) (by simp)
        replace L4 := Lib.hid L4
        go_wp2_with fail
        refine (hRx.out _).mono ?_; rintro e w6 ⟨rfl, hb⟩
        have L6 := L4.out.next hb
        clear hb x0 x1
        obtain ⟨x0, x1⟩ := L6.cells (b := w.heap.size) (p := (x, y)) (by simp)
        replace L6 := Lib.hid L6
        go_wp2_with fail
        refine (hRx.out _).mono ?_; rintro e w5 ⟨rfl, hb⟩
        have L5 := L6.out.next hb
        clear hb x0 x1
        replace L5 := Lib.hid L5
        go_upto_region 6 with fail
        refine wp_region_lex [(true, 0), (true, 2), (true, 5), (true, 6), (true, 7), (false, 1), (false, 3), (true, 4), (true, 8), (true, 9), (false, 10), (true, 11), (true, 12)] (fun W : World => (W.cell? ⟨w.heap.size, 0, none⟩ = some (.int .i64 x) ∧ W.cell? ⟨w.heap.size, 1, none⟩ = some (.int .i64 y)) ∧ (W.cell? ⟨(w.heap.size + 1), 0, none⟩ = some (.int .i64 x) ∧ W.cell? ⟨(w.heap.size + 1), 1, none⟩ = some (.int .i64 y2))) (by kernel_rfl) (by kernel_rfl) (fun R hR => ?_)
        have q0 := (L5.out).drew
        have hHeld : (fun W : World => (W.cell? ⟨w.heap.size, 0, none⟩ = some (.int .i64 x) ∧ W.cell? ⟨w.heap.size, 1, none⟩ = some (.int .i64 y)) ∧ (W.cell? ⟨(w.heap.size + 1), 0, none⟩ = some (.int .i64 x) ∧ W.cell? ⟨(w.heap.size + 1), 1, none⟩ = some (.int .i64 y2))) _ := ⟨q0.cells (b := w.heap.size) (p := (x, y)) (by simp), q0.cells (b := (w.heap.size + 1)) (p := (x, y2)) (by simp)⟩
        replace q0 := Lib.hid q0
        repeat (first | (refine lex_take (v := ?_) rfl (by rfl) (by assumption) ?_ ?_; rotate_left 1; (focus (intro w hSw; (try dsimp only at hSw); go_simp; (try with_reducible rfl))); (try simp only [Act.put, List.setIfInBounds_toArray, List.set_cons_zero, List.set_cons_succ])) | (refine lex_pass rfl (by rfl) (by assumption) ?_; (try simp only [Act.put, List.setIfInBounds_toArray, List.set_cons_zero, List.set_cons_succ])))
        (refine lex_call rfl (by rfl) (fun K hq => ?_); go_simp)
        go_at_call 15
        refine (hPa.out _ q0.out.below).mono ?_; rintro e v1 ⟨rfl, hb1⟩
        have q1 := Lay2.next q0.out hb1
        clear hHeld hb1 q0
        have hHeld : (fun W : World => (W.cell? ⟨w.heap.size, 0, none⟩ = some (.int .i64 x) ∧ W.cell? ⟨w.heap.size, 1, none⟩ = some (.int .i64 y)) ∧ (W.cell? ⟨(w.heap.size + 1), 0, none⟩ = some (.int .i64 x) ∧ W.cell? ⟨(w.heap.size + 1), 1, none⟩ = some (.int .i64 y2))) v1 := ⟨q1.cells (b := w.heap.size) (p := (x, y)) (by simp), q1.cells (b := (w.heap.size + 1)) (p := (x, y2)) (by simp)⟩
        replace q1 := Lib.hid q1
        go_wp2_with fail
        (refine hq.out _ _ (fun W : World => (W.cell? ⟨w.heap.size, 0, none⟩ = some (.int .i64 x) ∧ W.cell? ⟨w.heap.size, 1, none⟩ = some (.int .i64 y)) ∧ (W.cell? ⟨(w.heap.size + 1), 0, none⟩ = some (.int .i64 x) ∧ W.cell? ⟨(w.heap.size + 1), 1, none⟩ = some (.int .i64 y2))) (fun _ h => h) hHeld ?_; clear hq K; (try simp only [Act.put, List.setIfInBounds_toArray, List.set_cons_zero, List.set_cons_succ]))
        repeat (first | (refine lex_take (v := ?_) rfl (by rfl) (by assumption) ?_ ?_; rotate_left 1; (focus (intro w hSw; (try dsimp only at hSw); go_simp; (try with_reducible rfl))); (try simp only [Act.put, List.setIfInBounds_toArray, List.set_cons_zero, List.set_cons_succ])) | (refine lex_pass rfl (by rfl) (by assumption) ?_; (try simp only [Act.put, List.setIfInBounds_toArray, List.set_cons_zero, List.set_cons_succ])))
        (refine lex_call rfl (by rfl) (fun K hq => ?_); go_simp)
        go_at_call 15
        refine (hPb.out _ q1.out.below).mono ?_; rintro e v2 ⟨rfl, hb2⟩
        have q2 := Lay2.next q1.out hb2
        clear hHeld hb2 q1
        have hHeld : (fun W : World => (W.cell? ⟨w.heap.size, 0, none⟩ = some (.int .i64 x) ∧ W.cell? ⟨w.heap.size, 1, none⟩ = some (.int .i64 y)) ∧ (W.cell? ⟨(w.heap.size + 1), 0, none⟩ = some (.int .i64 x) ∧ W.cell? ⟨(w.heap.size + 1), 1, none⟩ = some (.int .i64 y2))) v2 := ⟨q2.cells (b := w.heap.size) (p := (x, y)) (by simp), q2.cells (b := (w.heap.size + 1)) (p := (x, y2)) (by simp)⟩
        replace q2 := Lib.hid q2
        go_wp2_with fail
        (refine hq.out _ _ (fun W : World => (W.cell? ⟨w.heap.size, 0, none⟩ = some (.int .i64 x) ∧ W.cell? ⟨w.heap.size, 1, none⟩ = some (.int .i64 y)) ∧ (W.cell? ⟨(w.heap.size + 1), 0, none⟩ = some (.int .i64 x) ∧ W.cell? ⟨(w.heap.size + 1), 1, none⟩ = some (.int .i64 y2))) (fun _ h => h) hHeld ?_; clear hq K; (try simp only [Act.put, List.setIfInBounds_toArray, List.set_cons_zero, List.set_cons_succ]))
        repeat (first | (refine lex_take (v := ?_) rfl (by rfl) (by assumption) ?_ ?_; rotate_left 1; (focus (intro w hSw; (try dsimp only at hSw); go_simp; (try with_reducible rfl))); (try simp only [Act.put, List.setIfInBounds_toArray, List.set_cons_zero, List.set_cons_succ])) | (refine lex_pass rfl (by rfl) (by assumption) ?_; (try simp only [Act.put, List.setIfInBounds_toArray, List.set_cons_zero, List.set_cons_succ])))
        (refine lex_call rfl (by rfl) (fun K hq => ?_); go_simp)
        go_at_call 8
        refine (hAw.out _ q2.out.below).mono ?_; rintro e v3 ⟨rfl, hb3⟩
        have q3 := Lay2.next q2.out hb3
        clear hHeld hb3 q2
        have hHeld : (fun W : World => (W.cell? ⟨w.heap.size, 0, none⟩ = some (.int .i64 x) ∧ W.cell? ⟨w.heap.size, 1, none⟩ = some (.int .i64 y)) ∧ (W.cell? ⟨(w.heap.size + 1), 0, none⟩ = some (.int .i64 x) ∧ W.cell? ⟨(w.heap.size + 1), 1, none⟩ = some (.int .i64 y2))) v3 := ⟨q3.cells (b := w.heap.size) (p := (x, y)) (by simp), q3.cells (b := (w.heap.size + 1)) (p := (x, y2)) (by simp)⟩
        replace q3 := Lib.hid q3
        go_wp2_with fail
        (refine hq.out _ _ (fun W : World => (W.cell? ⟨w.heap.size, 0, none⟩ = some (.int .i64 x) ∧ W.cell? ⟨w.heap.size, 1, none⟩ = some (.int .i64 y)) ∧ (W.cell? ⟨(w.heap.size + 1), 0, none⟩ = some (.int .i64 x) ∧ W.cell? ⟨(w.heap.size + 1), 1, none⟩ = some (.int .i64 y2))) (fun _ h => h) hHeld ?_; clear hq K; (try simp only [Act.put, List.setIfInBounds_toArray, List.set_cons_zero, List.set_cons_succ]))
        repeat (first | (refine lex_take (v := ?_) rfl (by rfl) (by assumption) ?_ ?_; rotate_left 1; (focus (intro w hSw; (try dsimp only at hSw); go_simp; (try with_reducible rfl))); (try simp only [Act.put, List.setIfInBounds_toArray, List.set_cons_zero, List.set_cons_succ])) | (refine lex_pass rfl (by rfl) (by assumption) ?_; (try simp only [Act.put, List.setIfInBounds_toArray, List.set_cons_zero, List.set_cons_succ])))
        refine lex_end ?_
        refine hR.out _ _ ?_
        clear hR R
        go_wp2_with fail
        go_ret
        exact ⟨rfl, q3.out.below⟩
      · have hP4 := hright rfl
        subst hP4
        clear hwrong hright
        replace hRx := Lib.hid hRx
        go_enter Tryz.func4, Tryz.ntmps4
        go_upto_region 1 with fail
        refine wp_region_lex [(true, 0), (true, 1), (true, 2), (true, 3), (true, 4), (false, 5), (true, 6), (true, 7), (true, 8), (true, 9), (false, 10), (true, 11), (true, 12), (true, 13), (true, 14), (true, 15), (true, 16), (false, 17), (true, 18), (true, 19), (true, 20), (false, 21), (true, 22), (true, 23), (true, 24), (true, 25), (true, 26), (false, 27), (true, 28), (true, 29), (true, 30), (false, 31), (true, 32), (true, 33), (true, 34), (true, 35), (false, 36), (true, 37), (true, 38), (true, 39)] (fun W : World => (W.cell? ⟨w.heap.size, 0, none⟩ = some (.int .i64 x) ∧ W.cell? ⟨w.heap.size, 1, none⟩ = some (.int .i64 y)) ∧ (W.cell? ⟨(w.heap.size + 1), 0, none⟩ = some (.int .i64 x) ∧ W.cell? ⟨(w.heap.size + 1), 1, none⟩ = some (.int .i64 y2)) ∧ (W.cell? ⟨(w.heap.size + 2), 0, none⟩ = some (.int .i64 x3) ∧ W.cell? ⟨(w.heap.size + 2), 1, none⟩ = some (.int .i64 y3))) (by kernel_rfl) (by kernel_rfl) (fun R hR => ?_)
        have q0 := (L0.out).drew
        have hHeld : (fun W : World => (W.cell? ⟨w.heap.size, 0, none⟩ = some (.int .i64 x) ∧ W.cell? ⟨w.heap.size, 1, none⟩ = some (.int .i64 y)) ∧ (W.cell? ⟨(w.heap.size + 1), 0, none⟩ = some (.int .i64 x) ∧ W.cell? ⟨(w.heap.size + 1), 1, none⟩ = some (.int .i64 y2)) ∧ (W.cell? ⟨(w.heap.size + 2), 0, none⟩ = some (.int .i64 x3) ∧ W.cell? ⟨(w.heap.size + 2), 1, none⟩ = some (.int .i64 y3))) _ := ⟨q0.cells (b := w.heap.size) (p := (x, y)) (by simp), q0.cells (b := (w.heap.size + 1)) (p := (x, y2)) (by simp), q0.cells (b := (w.heap.size + 2)) (p := (x3, y3)) (by simp)⟩
        replace q0 := Lib.hid q0
        repeat (first | (refine lex_take (v := ?_) rfl (by rfl) (by assumption) ?_ ?_; rotate_left 1; (focus (intro w hSw; (try dsimp only at hSw); go_simp; (try with_reducible rfl))); (try simp only [Act.put, List.setIfInBounds_toArray, List.set_cons_zero, List.set_cons_succ])) | (refine lex_pass rfl (by rfl) (by assumption) ?_; (try simp only [Act.put, List.setIfInBounds_toArray, List.set_cons_zero, List.set_cons_succ])))
        (refine lex_call rfl (by rfl) (fun K hq => ?_); go_simp)
        go_at_call 13
        refine (hAB.out _).mono ?_; rintro e v1 ⟨rfl, hb1⟩
        have q1 := Lay2.next q0.out hb1
        clear hHeld hb1 q0
        have hHeld : (fun W : World => (W.cell? ⟨w.heap.size, 0, none⟩ = some (.int .i64 x) ∧ W.cell? ⟨w.heap.size, 1, none⟩ = some (.int .i64 y)) ∧ (W.cell? ⟨(w.heap.size + 1), 0, none⟩ = some (.int .i64 x) ∧ W.cell? ⟨(w.heap.size + 1), 1, none⟩ = some (.int .i64 y2)) ∧ (W.cell? ⟨(w.heap.size + 2), 0, none⟩ = some (.int .i64 x3) ∧ W.cell? ⟨(w.heap.size + 2), 1, none⟩ = some (.int .i64 y3))) v1 := ⟨q1.cells (b := w.heap.size) (p := (x, y)) (by simp), q1.cells (b := (w.heap.size + 1)) (p := (x, y2)) (by simp), q1.cells (b := (w.heap.size + 2)) (p := (x3, y3)) (by simp)⟩
        replace q1 := Lib.hid q1
        go_wp2_with fail
        (refine hq.out _ _ (fun W : World => (W.cell? ⟨w.heap.size, 0, none⟩ = some (.int .i64 x) ∧ W.cell? ⟨w.heap.size, 1, none⟩ = some (.int .i64 y)) ∧ (W.cell? ⟨(w.heap.size + 1), 0, none⟩ = some (.int .i64 x) ∧ W.cell? ⟨(w.heap.size + 1), 1, none⟩ = some (.int .i64 y2)) ∧ (W.cell? ⟨(w.heap.size + 2), 0, none⟩ = some (.int .i64 x3) ∧ W.cell? ⟨(w.heap.size + 2), 1, none⟩ = some (.int .i64 y3))) (fun _ h => h) hHeld ?_; clear hq K; (try simp only [Act.put, List.setIfInBounds_toArray, List.set_cons_zero, List.set_cons_succ]))
        repeat (first | (refine lex_take (v := ?_) rfl (by rfl) (by assumption) ?_ ?_; rotate_left 1; (focus (intro w hSw; (try dsimp only at hSw); go_simp; (try with_reducible rfl))); (try simp only [Act.put, List.setIfInBounds_toArray, List.set_cons_zero, List.set_cons_succ])) | (refine lex_pass rfl (by rfl) (by assumption) ?_; (try simp only [Act.put, List.setIfInBounds_toArray, List.set_cons_zero, List.set_cons_succ])))
        (refine lex_call rfl (by rfl) (fun K hq => ?_); go_simp)
        go_at_call 13
        refine (hBA.out _).mono ?_; rintro e v2 ⟨rfl, hb2⟩
        have q2 := Lay2.next q1.out hb2
        clear hHeld hb2 q1
        have hHeld : (fun W : World => (W.cell? ⟨w.heap.size, 0, none⟩ = some (.int .i64 x) ∧ W.cell? ⟨w.heap.size, 1, none⟩ = some (.int .i64 y)) ∧ (W.cell? ⟨(w.heap.size + 1), 0, none⟩ = some (.int .i64 x) ∧ W.cell? ⟨(w.heap.size + 1), 1, none⟩ = some (.int .i64 y2)) ∧ (W.cell? ⟨(w.heap.size + 2), 0, none⟩ = some (.int .i64 x3) ∧ W.cell? ⟨(w.heap.size + 2), 1, none⟩ = some (.int .i64 y3))) v2 := ⟨q2.cells (b := w.heap.size) (p := (x, y)) (by simp), q2.cells (b := (w.heap.size + 1)) (p := (x, y2)) (by simp), q2.cells (b := (w.heap.size + 2)) (p := (x3, y3)) (by simp)⟩
        replace q2 := Lib.hid q2
        go_wp2_with fail
        (refine hq.out _ _ (fun W : World => (W.cell? ⟨w.heap.size, 0, none⟩ = some (.int .i64 x) ∧ W.cell? ⟨w.heap.size, 1, none⟩ = some (.int .i64 y)) ∧ (W.cell? ⟨(w.heap.size + 1), 0, none⟩ = some (.int .i64 x) ∧ W.cell? ⟨(w.heap.size + 1), 1, none⟩ = some (.int .i64 y2)) ∧ (W.cell? ⟨(w.heap.size + 2), 0, none⟩ = some (.int .i64 x3) ∧ W.cell? ⟨(w.heap.size + 2), 1, none⟩ = some (.int .i64 y3))) (fun _ h => h) hHeld ?_; clear hq K; (try simp only [Act.put, List.setIfInBounds_toArray, List.set_cons_zero, List.set_cons_succ]))
        repeat (first | (refine lex_take (v := ?_) rfl (by rfl) (by assumption) ?_ ?_; rotate_left 1; (focus (intro w hSw; (try dsimp only at hSw); go_simp; (try with_reducible rfl))); (try simp only [Act.put, List.setIfInBounds_toArray, List.set_cons_zero, List.set_cons_succ])) | (refine lex_pass rfl (by rfl) (by assumption) ?_; (try simp only [Act.put, List.setIfInBounds_toArray, List.set_cons_zero, List.set_cons_succ])))
        (refine lex_call rfl (by rfl) (fun K hq => ?_); go_simp)
        go_at_call 13
        refine (hAB.out _).mono ?_; rintro e v3 ⟨rfl, hb3⟩
        have q3 := Lay2.next q2.out hb3
        clear hHeld hb3 q2
        have hHeld : (fun W : World => (W.cell? ⟨w.heap.size, 0, none⟩ = some (.int .i64 x) ∧ W.cell? ⟨w.heap.size, 1, none⟩ = some (.int .i64 y)) ∧ (W.cell? ⟨(w.heap.size + 1), 0, none⟩ = some (.int .i64 x) ∧ W.cell? ⟨(w.heap.size + 1), 1, none⟩ = some (.int .i64 y2)) ∧ (W.cell? ⟨(w.heap.size + 2), 0, none⟩ = some (.int .i64 x3) ∧ W.cell? ⟨(w.heap.size + 2), 1, none⟩ = some (.int .i64 y3))) v3 := ⟨q3.cells (b := w.heap.size) (p := (x, y)) (by simp), q3.cells (b := (w.heap.size + 1)) (p := (x, y2)) (by simp), q3.cells (b := (w.heap.size + 2)) (p := (x3, y3)) (by simp)⟩
        replace q3 := Lib.hid q3
        go_wp2_with fail
        (refine hq.out _ _ (fun W : World => (W.cell? ⟨w.heap.size, 0, none⟩ = some (.int .i64 x) ∧ W.cell? ⟨w.heap.size, 1, none⟩ = some (.int .i64 y)) ∧ (W.cell? ⟨(w.heap.size + 1), 0, none⟩ = some (.int .i64 x) ∧ W.cell? ⟨(w.heap.size + 1), 1, none⟩ = some (.int .i64 y2)) ∧ (W.cell? ⟨(w.heap.size + 2), 0, none⟩ = some (.int .i64 x3) ∧ W.cell? ⟨(w.heap.size + 2), 1, none⟩ = some (.int .i64 y3))) (fun _ h => h) hHeld ?_; clear hq K; (try simp only [Act.put, List.setIfInBounds_toArray, List.set_cons_zero, List.set_cons_succ]))
        repeat (first | (refine lex_take (v := ?_) rfl (by rfl) (by assumption) ?_ ?_; rotate_left 1; (focus (intro w hSw; (try dsimp only at hSw); go_simp; (try with_reducible rfl))); (try simp only [Act.put, List.setIfInBounds_toArray, List.set_cons_zero, List.set_cons_succ])) | (refine lex_pass rfl (by rfl) (by assumption) ?_; (try simp only [Act.put, List.setIfInBounds_toArray, List.set_cons_zero, List.set_cons_succ])))
        (refine lex_call rfl (by rfl) (fun K hq => ?_); go_simp)
        go_at_call 13
        refine (hAB.out _).mono ?_; rintro e v4 ⟨rfl, hb4⟩
        have q4 := Lay2.next q3.out hb4
        clear hHeld hb4 q3
        have hHeld : (fun W : World => (W.cell? ⟨w.heap.size, 0, none⟩ = some (.int .i64 x) ∧ W.cell? ⟨w.heap.size, 1, none⟩ = some (.int .i64 y)) ∧ (W.cell? ⟨(w.heap.size + 1), 0, none⟩ = some (.int .i64 x) ∧ W.cell? ⟨(w.heap.size + 1), 1, none⟩ = some (.int .i64 y2)) ∧ (W.cell? ⟨(w.heap.size + 2), 0, none⟩ = some (.int .i64 x3) ∧ W.cell? ⟨(w.heap.size + 2), 1, none⟩ = some (.int .i64 y3))) v4 := ⟨q4.cells (b := w.heap.size) (p := (x, y)) (by simp), q4.cells (b := (w.heap.size + 1)) (p := (x, y2)) (by simp), q4.cells (b := (w.heap.size + 2)) (p := (x3, y3)) (by simp)⟩
        replace q4 := Lib.hid q4
        go_wp2_with fail
        (refine hq.out _ _ (fun W : World => (W.cell? ⟨w.heap.size, 0, none⟩ = some (.int .i64 x) ∧ W.cell? ⟨w.heap.size, 1, none⟩ = some (.int .i64 y)) ∧ (W.cell? ⟨(w.heap.size + 1), 0, none⟩ = some (.int .i64 x) ∧ W.cell? ⟨(w.heap.size + 1), 1, none⟩ = some (.int .i64 y2)) ∧ (W.cell? ⟨(w.heap.size + 2), 0, none⟩ = some (.int .i64 x3) ∧ W.cell? ⟨(w.heap.size + 2), 1, none⟩ = some (.int .i64 y3))) (fun _ h => h) hHeld ?_; clear hq K; (try simp only [Act.put, List.setIfInBounds_toArray, List.set_cons_zero, List.set_cons_succ]))
        repeat (first | (refine lex_take (v := ?_) rfl (by rfl) (by assumption) ?_ ?_; rotate_left 1; (focus (intro w hSw; (try dsimp only at hSw); go_simp; (try with_reducible rfl))); (try simp only [Act.put, List.setIfInBounds_toArray, List.set_cons_zero, List.set_cons_succ])) | (refine lex_pass rfl (by rfl) (by assumption) ?_; (try simp only [Act.put, List.setIfInBounds_toArray, List.set_cons_zero, List.set_cons_succ])))
        refine lex_end ?_
        refine hR.out _ _ ?_
        clear hR R
        have L1 := q4
        clear q4
        go_upto_region 3 with fail
        obtain ⟨x0, x1⟩ := L1.out.cells (b := w.heap.size) (p := (x, y)) (by simp)
        go_wp2_with fail
        refine (hPa.out _ L1.out.below).mono ?_; rintro e w2 ⟨rfl, hb⟩
        have L2 := L1.out.next hb
        replace L2 := Lib.hid L2
        clear hb x0 x1
        go_wp2_with fail
        refine (hPs.out _ L2.out.below).mono ?_; rintro e w3 ⟨v, rfl, hv, hb⟩
        have L3 := L2.out.next hb
        clear hb
        obtain ⟨_, rfl⟩ := hv.resolve_right (fun h => h.1 rfl)
        clear hv
        replace L3 := Lib.hid L3
        go_upto_region 4 with fail
        refine worldI (α := fun W' => Code.wp _ _ _ _ W') (Lay2 w sv ((w3.heap.size, (x, y)) :: [(w.heap.size, (x, y)), (w.heap.size + 1, (x, y2)), (w.heap.size + 2, (x3, y3))]) .nilIface [] 0) (L3.out.add x y) fun W4 L4 => ?_
        obtain ⟨x0, x1⟩ := L4.cells (b := w.heap.size) (p := (x, y)) (by simp)
        replace L4 := Lib.hid L4
        go_wp2_with fail
        refine (hRx.out _).mono ?_; rintro e w6 ⟨rfl, hb⟩
        have L6 := L4.out.next hb
        clear hb x0 x1
        obtain ⟨x0, x1⟩ := L6.cells (b := w.heap.size) (p := (x, y)) (by simp)
        obtain ⟨z0, z1⟩ := L6.cells (b := w3.heap.size) (p := (x, y)) (by simp)
        replace L6 := Lib.hid L6
        go_wp2_with fail
        refine (hRx.out _).mono ?_; rintro e w5 ⟨rfl, hb⟩
        have L5 := L6.out.next hb
        clear hb x0 x1 z0 z1
        replace L5 := Lib.hid L5
        go_upto_region 6 with fail
        refine wp_region_lex [(true, 0), (true, 2), (true, 5), (true, 6), (true, 7), (false, 1), (false, 3), (true, 4), (true, 8), (true, 9), (false, 10), (true, 11), (true, 12)] (fun W : World => (W.cell? ⟨w.heap.size, 0, none⟩ = some (.int .i64 x) ∧ W.cell? ⟨w.heap.size, 1, none⟩ = some (.int .i64 y)) ∧ (W.cell? ⟨(w.heap.size + 1), 0, none⟩ = some (.int .i64 x) ∧ W.cell? ⟨(w.heap.size + 1), 1, none⟩ = some (.int .i64 y2))) (by kernel_rfl) (by kernel_rfl) (fun R hR => ?_)
        have q0 := (L5.out).drew
        have hHeld : (fun W : World => (W.cell? ⟨w.heap.size, 0, none⟩ = some (.int .i64 x) ∧ W.cell? ⟨w.heap.size, 1, none⟩ = some (.int .i64 y)) ∧ (W.cell? ⟨(w.heap.size + 1), 0, none⟩ = some (.int .i64 x) ∧ W.cell? ⟨(w.heap.size + 1), 1, none⟩ = some (.int .i64 y2))) _ := ⟨q0.cells (b := w.heap.size) (p := (x, y)) (by simp), q0.cells (b := (w.heap.size + 1)) (p := (x, y2)) (by simp)⟩
        replace q0 := Lib.hid q0
        repeat (first | (refine lex_take (v := ?_) rfl (by rfl) (by assumption) ?_ ?_; rotate_left 1; (focus (intro w hSw; (try dsimp only at hSw); go_simp; (try with_reducible rfl))); (try simp only [Act.put, List.setIfInBounds_toArray, List.set_cons_zero, List.set_cons_succ])) | (refine lex_pass rfl (by rfl) (by assumption) ?_; (try simp only [Act.put, List.setIfInBounds_toArray, List.set_cons_zero, List.set_cons_succ])))
        (refine lex_call rfl (by rfl) (fun K hq => ?_); go_simp)
        go_at_call 15
        refine (hPa.out _ q0.out.below).mono ?_; rintro e v1 ⟨rfl, hb1⟩
        have q1 := Lay2.next q0.out hb1
        clear hHeld hb1 q0
        have hHeld : (fun W : World => (W.cell? ⟨w.heap.size, 0, none⟩ = some (.int .i64 x) ∧ W.cell? ⟨w.heap.size, 1, none⟩ = some (.int .i64 y)) ∧ (W.cell? ⟨(w.heap.size + 1), 0, none⟩ = some (.int .i64 x) ∧ W.cell? ⟨(w.heap.size + 1), 1, none⟩ = some (.int .i64 y2))) v1 := ⟨q1.cells (b := w.heap.size) (p := (x, y)) (by simp), q1.cells (b := (w.heap.size + 1)) (p := (x, y2)) (by simp)⟩
        replace q1 := Lib.hid q1
        go_wp2_with fail
        (refine hq.out _ _ (fun W : World => (W.cell? ⟨w.heap.size, 0, none⟩ = some (.int .i64 x) ∧ W.cell? ⟨w.heap.size, 1, none⟩ = some (.int .i64 y)) ∧ (W.cell? ⟨(w.heap.size + 1), 0, none⟩ = some (.int .i64 x) ∧ W.cell? ⟨(w.heap.size + 1), 1, none⟩ = some (.int .i64 y2))) (fun _ h => h) hHeld ?_; clear hq K; (try simp only [Act.put, List.setIfInBounds_toArray, List.set_cons_zero, List.set_cons_succ]))
        repeat (first | (refine lex_take (v := ?_) rfl (by rfl) (by assumption) ?_ ?_; rotate_left 1; (focus (intro w hSw; (try dsimp only at hSw); go_simp; (try with_reducible rfl))); (try simp only [Act.put, List.setIfInBounds_toArray, List.set_cons_zero, List.set_cons_succ])) | (refine lex_pass rfl (by rfl) (by assumption) ?_; (try simp only [Act.put, List.setIfInBounds_toArray, List.set_cons_zero, List.set_cons_succ])))
        (refine lex_call rfl (by rfl) (fun K hq => ?_); go_simp)
        go_at_call 15
        refine (hPb.out _ q1.out.below).mono ?_; rintro e v2 ⟨rfl, hb2⟩
        have q2 := Lay2.next q1.out hb2
        clear hHeld hb2 q1
        have hHeld : (fun W : World => (W.cell? ⟨w.heap.size, 0, none⟩ = some (.int .i64 x) ∧ W.cell? ⟨w.heap.size, 1, none⟩ = some (.int .i64 y)) ∧ (W.cell? ⟨(w.heap.size + 1), 0, none⟩ = some (.int .i64 x) ∧ W.cell? ⟨(w.heap.size + 1), 1, none⟩ = some (.int .i64 y2))) v2 := ⟨q2.cells (b := w.heap.size) (p := (x, y)) (by simp), q2.cells (b := (w.heap.size + 1)) (p := (x, y2)) (by simp)⟩
        replace q2 := Lib.hid q2
        go_wp2_with fail
        (refine hq.out _ _ (fun W : World => (W.cell? ⟨w.heap.size, 0, none⟩ = some (.int .i64 x) ∧ W.cell? ⟨w.heap.size, 1, none⟩ = some (.int .i64 y)) ∧ (W.cell? ⟨(w.heap.size + 1), 0, none⟩ = some (.int .i64 x) ∧ W.cell? ⟨(w.heap.size + 1), 1, none⟩ = some (.int .i64 y2))) (fun _ h => h) hHeld ?_; clear hq K; (try simp only [Act.put, List.setIfInBounds_toArray, List.set_cons_zero, List.set_cons_succ]))
        repeat (first | (refine lex_take (v := ?_) rfl (by rfl) (by assumption) ?_ ?_; rotate_left 1; (focus (intro w hSw; (try dsimp only at hSw); go_simp; (try with_reducible rfl))); (try simp only [Act.put, List.setIfInBounds_toArray, List.set_cons_zero, List.set_cons_succ])) | (refine lex_pass rfl (by rfl) (by assumption) ?_; (try simp only [Act.put, List.setIfInBounds_toArray, List.set_cons_zero, List.set_cons_succ])))
        (refine lex_call rfl (by rfl) (fun K hq => ?_); go_simp)
        go_at_call 8
        refine (hAw.out _ q2.out.below).mono ?_; rintro e v3 ⟨rfl, hb3⟩
        have q3 := Lay2.next q2.out hb3
        clear hHeld hb3 q2
        have hHeld : (fun W : World => (W.cell? ⟨w.heap.size, 0, none⟩ = some (.int .i64 x) ∧ W.cell? ⟨w.heap.size, 1, none⟩ = some (.int .i64 y)) ∧ (W.cell? ⟨(w.heap.size + 1), 0, none⟩ = some (.int .i64 x) ∧ W.cell? ⟨(w.heap.size + 1), 1, none⟩ = some (.int .i64 y2))) v3 := ⟨q3.cells (b := w.heap.size) (p := (x, y)) (by simp), q3.cells (b := (w.heap.size + 1)) (p := (x, y2)) (by simp)⟩
        replace q3 := Lib.hid q3
        go_wp2_with fail
        (refine hq.out _ _ (fun W : World => (W.cell? ⟨w.heap.size, 0, none⟩ = some (.int .i64 x) ∧ W.cell? ⟨w.heap.size, 1, none⟩ = some (.int .i64 y)) ∧ (W.cell? ⟨(w.heap.size + 1), 0, none⟩ = some (.int .i64 x) ∧ W.cell? ⟨(w.heap.size + 1), 1, none⟩ = some (.int .i64 y2))) (fun _ h => h) hHeld ?_; clear hq K; (try simp only [Act.put, List.setIfInBounds_toArray, List.set_cons_zero, List.set_cons_succ]))
        repeat (first | (refine lex_take (v := ?_) rfl (by rfl) (by assumption) ?_ ?_; rotate_left 1; (focus (intro w hSw; (try dsimp only at hSw); go_simp; (try with_reducible rfl))); (try simp only [Act.put, List.setIfInBounds_toArray, List.set_cons_zero, List.set_cons_succ])) | (refine lex_pass rfl (by rfl) (by assumption) ?_; (try simp only [Act.put, List.setIfInBounds_toArray, List.set_cons_zero, List.set_cons_succ])))
        refine lex_end ?_
        refine hR.out _ _ ?_
        clear hR R
        go_wp2_with fail
        go_ret
        exact ⟨rfl, q3.out.below⟩
  · cases r
    · have h0 := o2 rfl
      subst h0
      clear o1 o2 o3
      replace hAB := Lib.hid hAB
      replace hBA := Lib.hid hBA
      replace hBC := Lib.hid hBC
      replace hAC := Lib.hid hAC
      rcases hxy2 with h | ⟨h0, h⟩
      · cases rx
        · have hP4 := Lib.hid (hwrong rfl)
          clear hwrong hright
          replace hRx := Lib.hid hRx
          go_enter Tryz.func4, Tryz.ntmps4
          go_upto_region 1 with fail
          refine wp_region_lex [(true, 0), (true, 1), (true, 2), (true, 3), (true, 4), (false, 5), (true, 6), (true, 7), (true, 8), (true, 9), (false, 10), (true, 11), (true, 12), (true, 13), (true, 14), (true, 15), (true, 16), (false, 17), (true, 18), (true, 19), (true, 20), (false, 21), (true, 22), (true, 23), (true, 24), (true, 25), (true, 26), (false, 27), (true, 28), (true, 29), (true, 30), (false, 31), (true, 32), (true, 33), (true, 34), (true, 35), (false, 36), (true, 37), (true, 38), (true, 39)] (fun W : World => (W.cell? ⟨w.heap.size, 0, none⟩ = some (.int .i64 x) ∧ W.cell? ⟨w.heap.size, 1, none⟩ = some (.int .i64 y)) ∧ (W.cell? ⟨(w.heap.size + 1), 0, none⟩ = some (.int .i64 x2) ∧ W.cell? ⟨(w.heap.size + 1), 1, none⟩ = some (.int .i64 y2)) ∧ (W.cell? ⟨(w.heap.size + 2), 0, none⟩ = some (.int .i64 x3) ∧ W.cell? ⟨(w.heap.size + 2), 1, none⟩ = some (.int .i64 y3))) (by kernel_rfl) (by kernel_rfl) (fun R hR => ?_)
          have q0 := (L0.out).drew
          have hHeld : (fun W : World => (W.cell? ⟨w.heap.size, 0, none⟩ = some (.int .i64 x) ∧ W.cell? ⟨w.heap.size, 1, none⟩ = some (.int .i64 y)) ∧ (W.cell? ⟨(w.heap.size + 1), 0, none⟩ = some (.int .i64 x2) ∧ W.cell? ⟨(w.heap.size + 1), 1, none⟩ = some (.int .i64 y2)) ∧ (W.cell? ⟨(w.heap.size + 2), 0, none⟩ = some (.int .i64 x3) ∧ W.cell? ⟨(w.heap.size + 2), 1, none⟩ = some (.int .i64 y3))) _ := ⟨q0.cells (b := w.heap.size) (p := (x, y)) (by simp), q0.cells (b := (w.heap.size + 1)) (p := (x2, y2)) (by simp), q0.cells (b := (w.heap.size + 2)) (p := (x3, y3)) (by simp)⟩
          replace q0 := Lib.hid q0
          repeat (first | (refine lex_take (v := ?_) rfl (by rfl) (by assumption) ?_ ?_; rotate_left 1; (focus (intro w hSw; (try dsimp only at hSw); go_simp; (try with_reducible rfl))); (try simp only [Act.put, List.setIfInBounds_toArray, List.set_cons_zero, List.set_cons_succ])) | (refine lex_pass rfl (by rfl) (by assumption) ?_; (try simp only [Act.put, List.setIfInBounds_toArray, List.set_cons_zero, List.set_cons_succ])))
          (refine lex_call rfl (by rfl) (fun K hq => ?_); go_simp)
          go_at_call 13
          refine (hAB.out _).mono ?_; rintro e v1 ⟨rfl, hb1⟩
          have q1 := Lay2.next q0.out hb1
          clear hHeld hb1 q0
          have hHeld : (fun W : World => (W.cell? ⟨w.heap.size, 0, none⟩ = some (.int .i64 x) ∧ W.cell? ⟨w.heap.size, 1, none⟩ = some (.int .i64 y)) ∧ (W.cell? ⟨(w.heap.size + 1), 0, none⟩ = some (.int .i64 x2) ∧ W.cell? ⟨(w.heap.size + 1), 1, none⟩ = some (.int .i64 y2)) ∧ (W.cell? ⟨(w.heap.size + 2), 0, none⟩ = some (.int .i64 x3) ∧ W.cell? ⟨(w.heap.size + 2), 1, none⟩ = some (.int .i64 y3))) v1 := ⟨q1.cells (b := w.heap.size) (p := (x, y)) (by simp), q1.cells (b := (w.heap.size + 1)) (p := (x2, y2)) (by simp), q1.cells (b := (w.heap.size + 2)) (p := (x3, y3)) (by simp)⟩
          replace q1 := Lib.hid q1
          go_wp2_with fail
          (refine hq.out _ _ (fun W : World => (W.cell? ⟨w.heap.size, 0, none⟩ = some (.int .i64 x) ∧ W.cell? ⟨w.heap.size, 1, none⟩ = some (.int .i64 y)) ∧ (W.cell? ⟨(w.heap.size + 1), 0, none⟩ = some (.int .i64 x2) ∧ W.cell? ⟨(w.heap.size + 1), 1, none⟩ = some (.int .i64 y2)) ∧ (W.cell? ⟨(w.heap.size + 2), 0, none⟩ = some (.int .i64 x3) ∧ W.cell? ⟨(w.heap.size + 2), 1, none⟩ = some (.int .i64 y3))) (fun _ h => h) hHeld ?_; clear hq K; (try simp only [Act.put, List.setIfInBounds_toArray, List.set_cons_zero, List.set_cons_succ]))
          repeat (first | (refine lex_take (v := ?_) rfl (by rfl) (by assumption) ?_ ?_; rotate_left 1; (focus (intro w hSw; (try dsimp only at hSw); go_simp; (try with_reducible rfl))); (try simp only [Act.put, List.setIfInBounds_toArray, List.set_cons_zero, List.set_cons_succ])) | (refine lex_pass rfl (by rfl) (by assumption) ?_; (try simp only [Act.put, List.setIfInBounds_toArray, List.set_cons_zero, List.set_cons_succ])))
          (refine lex_call rfl (by rfl) (fun K hq => ?_); go_simp)
          go_at_call 13
          refine (hAB.out _).mono ?_; rintro e v2 ⟨rfl, hb2⟩
          have q2 := Lay2.next q1.out hb2
          clear hHeld hb2 q1
          have hHeld : (fun W : World => (W.cell? ⟨w.heap.size, 0, none⟩ = some (.int .i64 x) ∧ W.cell? ⟨w.heap.size, 1, none⟩ = some (.int .i64 y)) ∧ (W.cell? ⟨(w.heap.size + 1), 0, none⟩ = some (.int .i64 x2) ∧ W.cell? ⟨(w.heap.size + 1), 1, none⟩ = some (.int .i64 y2)) ∧ (W.cell? ⟨(w.heap.size + 2), 0, none⟩ = some (.int .i64 x3) ∧ W.cell? ⟨(w.heap.size + 2), 1, none⟩ = some (.int .i64 y3))) v2 := ⟨q2.cells (b := w.heap.size) (p := (x, y)) (by simp), q2.cells (b := (w.heap.size + 1)) (p := (x2, y2)) (by simp), q2.cells (b := (w.heap.size + 2)) (p := (x3, y3)) (by simp)⟩
          replace q2 := Lib.hid q2
          go_wp2_with fail
          (refine hq.out _ _ (fun W : World => (W.cell? ⟨w.heap.size, 0, none⟩ = some (.int .i64 x) ∧ W.cell? ⟨w.heap.size, 1, none⟩ = some (.int .i64 y)) ∧ (W.cell? ⟨(w.heap.size + 1), 0, none⟩ = some (.int .i64 x2) ∧ W.cell? ⟨(w.heap.size + 1), 1, none⟩ = some (.int .i64 y2)) ∧ (W.cell? ⟨(w.heap.size + 2), 0, none⟩ = some (.int .i64 x3) ∧ W.cell? ⟨(w.heap.size + 2), 1, none⟩ = some (.int .i64 y3))) (fun _ h => h) hHeld ?_; clear hq K; (try simp only [Act.put, List.setIfInBounds_toArray, List.set_cons_zero, List.set_cons_succ]))
          repeat (first | (refine lex_take (v := ?_) rfl (by rfl) (by assumption) ?_ ?_; rotate_left 1; (focus (intro w hSw; (try dsimp only at hSw); go_simp; (try with_reducible rfl))); (try simp only [Act.put, List.setIfInBounds_toArray, List.set_cons_zero, List.set_cons_succ])) | (refine lex_pass rfl (by rfl) (by assumption) ?_; (try simp only [Act.put, List.setIfInBounds_toArray, List.set_cons_zero, List.set_cons_succ])))
          (refine lex_call rfl (by rfl) (fun K hq => ?_); go_simp)
          go_at_call 13
          refine (hBA.out _).mono ?_; rintro e v3 ⟨rfl, hb3⟩
          have q3 := Lay2.next q2.out hb3
          clear hHeld hb3 q2
          have hHeld : (fun W : World => (W.cell? ⟨w.heap.size, 0, none⟩ = some (.int .i64 x) ∧ W.cell? ⟨w.heap.size, 1, none⟩ = some (.int .i64 y)) ∧ (W.cell? ⟨(w.heap.size + 1), 0, none⟩ = some (.int .i64 x2) ∧ W.cell? ⟨(w.heap.size + 1), 1, none⟩ = some (.int .i64 y2)) ∧ (W.cell? ⟨(w.heap.size + 2), 0, none⟩ = some (.int .i64 x3) ∧ W.cell? ⟨(w.heap.size + 2), 1, none⟩ = some (.int .i64 y3))) v3 := ⟨q3.cells (b := w.heap.size) (p := (x, y)) (by simp), q3.cells (b := (w.heap.size + 1)) (p := (x2, y2)) (by simp), q3.cells (b := (w.heap.size + 2)) (p := (x3, y3)) (by simp)⟩
          replace q3 := Lib.hid q3
          go_wp2_with fail
          (refine hq.out _ _ (fun W : World => (W.cell? ⟨w.heap.size, 0, none⟩ = some (.int .i64 x) ∧ W.cell? ⟨w.heap.size, 1, none⟩ = some (.int .i64 y)) ∧ (W.cell? ⟨(w.heap.size + 1), 0, none⟩ = some (.int .i64 x2) ∧ W.cell? ⟨(w.heap.size + 1), 1, none⟩ = some (.int .i64 y2)) ∧ (W.cell? ⟨(w.heap.size + 2), 0, none⟩ = some (.int .i64 x3) ∧ W.cell? ⟨(w.heap.size + 2), 1, none⟩ = some (.int .i64 y3))) (fun _ h => h) hHeld ?_; clear hq K; (try simp only [Act.put, List.setIfInBounds_toArray, List.set_cons_zero, List.set_cons_succ]))
          repeat (first | (refine lex_take (v := ?_) rfl (by rfl) (by assumption) ?_ ?_; rotate_left 1; (focus (intro w hSw; (try dsimp only at hSw); go_simp; (try with_reducible rfl))); (try simp only [Act.put, List.setIfInBounds_toArray, List.set_cons_zero, List.set_cons_succ])) | (refine lex_pass rfl (by rfl) (by assumption) ?_; (try simp only [Act.put, List.setIfInBounds_toArray, List.set_cons_zero, List.set_cons_succ])))
          (refine lex_call rfl (by rfl) (fun K hq => ?_); go_simp)
          go_at_call 13
          refine (hAB.out _).mono ?_; rintro e v4 ⟨rfl, hb4⟩
          have q4 := Lay2.next q3.out hb4
          clear hHeld hb4 q3
          have hHeld : (fun W : World => (W.cell? ⟨w.heap.size, 0, none⟩ = some (.int .i64 x) ∧ W.cell? ⟨w.heap.size, 1, none⟩ = some (.int .i64 y)) ∧ (W.cell? ⟨(w.heap.size + 1), 0, none⟩ = some (.int .i64 x2) ∧ W.cell? ⟨(w.heap.size + 1), 1, none⟩ = some (.int .i64 y2)) ∧ (W.cell? ⟨(w.heap.size + 2), 0, none⟩ = some (.int .i64 x3) ∧ W.cell? ⟨(w.heap.size + 2), 1, none⟩ = some (.int .i64 y3))) v4 := ⟨q4.cells (b := w.heap.size) (p := (x, y)) (by simp), q4.cells (b := (w.heap.size + 1)) (p := (x2, y2)) (by simp), q4.cells (b := (w.heap.size + 2)) (p := (x3, y3)) (by simp)⟩
          replace q4 := Lib.hid q4
          go_wp2_with fail
          (refine hq.out _ _ (fun W : World => (W.cell? ⟨w.heap.size, 0, none⟩ = some (.int .i64 x) ∧ W.cell? ⟨w.heap.size, 1, none⟩ = some (.int .i64 y)) ∧ (W.cell? ⟨(w.heap.size + 1), 0, none⟩ = some (.int .i64 x2) ∧ W.cell? ⟨(w.heap.size + 1), 1, none⟩ = some (.int .i64 y2)) ∧ (W.cell? ⟨(w.heap.size + 2), 0, none⟩ = some (.int .i64 x3) ∧ W.cell? ⟨(w.heap.size + 2), 1, none⟩ = some (.int .i64 y3))) (fun _ h => h) hHeld ?_; clear hq K; (try simp only [Act.put, List.setIfInBounds_toArray, List.set_cons_zero, List.set_cons_succ]))
          repeat (first | (refine lex_take (v := ?_) rfl (by rfl) (by assumption) ?_ ?_; rotate_left 1; (focus (intro w hSw; (try dsimp only at hSw); go_simp; (try with_reducible rfl))); (try simp only [Act.put, List.setIfInBounds_toArray, List.set_cons_zero, List.set_cons_succ])) | (refine lex_pass rfl (by rfl) (by assumption) ?_; (try simp only [Act.put, List.setIfInBounds_toArray, List.set_cons_zero, List.set_cons_succ])))
          (refine lex_call rfl (by rfl) (fun K hq => ?_); go_simp)
          go_at_call 13
          refine (hBC.out _).mono ?_; rintro e v5 ⟨rfl, hb5⟩
          have q5 := Lay2.next q4.out hb5
          clear hHeld hb5 q4
          have hHeld : (fun W : World => (W.cell? ⟨w.heap.size, 0, none⟩ = some (.int .i64 x) ∧ W.cell? ⟨w.heap.size, 1, none⟩ = some (.int .i64 y)) ∧ (W.cell? ⟨(w.heap.size + 1), 0, none⟩ = some (.int .i64 x2) ∧ W.cell? ⟨(w.heap.size + 1), 1, none⟩ = some (.int .i64 y2)) ∧ (W.cell? ⟨(w.heap.size + 2), 0, none⟩ = some (.int .i64 x3) ∧ W.cell? ⟨(w.heap.size + 2), 1, none⟩ = some (.int .i64 y3))) v5 := ⟨q5.cells (b := w.heap.size) (p := (x, y)) (by simp), q5.cells (b := (w.heap.size + 1)) (p := (x2, y2)) (by simp), q5.cells (b := (w.heap.size + 2)) (p := (x3, y3)) (by simp)⟩
          replace q5 := Lib.hid q5
          go_wp2_with fail
          (refine hq.out _ _ (fun W : World => (W.cell? ⟨w.heap.size, 0, none⟩ = some (.int .i64 x) ∧ W.cell? ⟨w.heap.size, 1, none⟩ = some (.int .i64 y)) ∧ (W.cell? ⟨(w.heap.size + 1), 0, none⟩ = some (.int .i64 x2) ∧ W.cell? ⟨(w.heap.size + 1), 1, none⟩ = some (.int .i64 y2)) ∧ (W.cell? ⟨(w.heap.size + 2), 0, none⟩ = some (.int .i64 x3) ∧ W.cell? ⟨(w.heap.size + 2), 1, none⟩ = some (.int .i64 y3))) (fun _ h => h) hHeld ?_; clear hq K; (try simp only [Act.put, List.setIfInBounds_toArray, List.set_cons_zero, List.set_cons_succ]))
          repeat (first | (refine lex_take (v := ?_) rfl (by rfl) (by assumption) ?_ ?_; rotate_left 1; (focus (intro w hSw; (try dsimp only at hSw); go_simp; (try with_reducible rfl))); (try simp only [Act.put, List.setIfInBounds_toArray, List.set_cons_zero, List.set_cons_succ])) | (refine lex_pass rfl (by rfl) (by assumption) ?_; (try simp only [Act.put, List.setIfInBounds_toArray, List.set_cons_zero, List.set_cons_succ])))
          refine lex_end ?_
          refine hR.out _ _ ?_
          clear hR R
          have L1 := q5
          clear q5
          go_upto_region 3 with fail
          obtain ⟨x0, x1⟩ := L1.out.cells (b := w.heap.size) (p := (x, y)) (by simp)
          go_wp2_with fail
          refine (hPa.out _ L1.out.below).mono ?_; rintro e w2 ⟨rfl, hb⟩
          have L2 := L1.out.next hb
          replace L2 := Lib.hid L2
          clear hb x0 x1
          go_wp2_with fail
          refine (hPs.out _ L2.out.below).mono ?_; rintro e w3 ⟨v, rfl, hv, hb⟩
          have L3 := L2.out.next hb
          clear hb
          obtain ⟨_, hv3, _⟩ := hv.resolve_left (fun h => by have h1 := h.1; rw [hP4.out] at h1; exact absurd h1 (by decide))
          obtain ⟨ty, u, rfl⟩ := hv3.iface
          clear hv hv3
          replace L3 := Lib.hid L3
          go_upto_region 4 with fail
          refine worldI (α := fun W' => Code.wp _ _ _ _ W') (Lay2 w sv ((w3.heap.size, (P.1.1, P.1.2)) :: [(w.heap.size, (x, y)), (w.heap.size + 1, (x2, y2)), (w.heap.size + 2, (x3, y3))]) .nilIface [] 0) (L3.out.add P.1.1 P.1.2) fun W4 L4 => ?_
          obtain ⟨x0, x1⟩ := L4.cells (b := w.heap.size) (p := (x, y)) (by simp)
          replace L4 := Lib.hid L4
          go_wp2_with fail
          refine (hRx.out _).mono ?_; rintro e w6 ⟨rfl, hb⟩
          have L6 := L4.out.next hb
          clear hb x0 x1
          obtain ⟨x0, x1⟩ := L6.cells (b := w.heap.size) (p := (x, y)) (by simp)
          replace L6 := Lib.hid L6
          go_wp2_with fail
          refine (hRx.out _).mono ?_; rintro e w5 ⟨rfl, hb⟩
          have L5 := L6.out.next hb
          clear hb x0 x1
          replace L5 := Lib.hid L5
          go_upto_region 6 with fail
          refine wp_region_lex [(true, 0), (true, 2), (true, 5), (true, 6), (true, 7), (false, 1), (false, 3), (true, 4), (true, 8), (true, 9), (false, 10), (true, 11), (true, 12)] (fun W : World => (W.cell? ⟨w.heap.size, 0, none⟩ = some (.int .i64 x) ∧ W.cell? ⟨w.heap.size, 1, none⟩ = some (.int .i64 y)) ∧ (W.cell? ⟨(w.heap.size + 1), 0, none⟩ = some (.int .i64 x2) ∧ W.cell? ⟨(w.heap.size + 1), 1, none⟩ = some (.int .i64 y2))) (by kernel_rfl) (by kernel_rfl) (fun R hR => ?_)
          have q0 := (L5.out).drew
          have hHeld : (fun W : World => (W.cell? ⟨w.heap.size, 0, none⟩ = some (.int .i64 x) ∧ W.cell? ⟨w.heap.size, 1, none⟩ = some (.int .i64 y)) ∧ (W.cell? ⟨(w.heap.size + 1), 0, none⟩ = some (.int .i64 x2) ∧ W.cell? ⟨(w.heap.size + 1), 1, none⟩ = some (.int .i64 y2))) _ := ⟨q0.cells (b := w.heap.size) (p := (x, y)) (by simp), q0.cells (b := (w.heap.size + 1)) (p := (x2, y2)) (by simp)⟩
          replace q0 := Lib.hid q0
          repeat (first | (refine lex_take (v := ?_) rfl (by rfl) (by assumption) ?_ ?_; rotate_left 1; (focus (intro w hSw; (try dsimp only at hSw); go_simp; (try with_reducible rfl))); (try simp only [Act.put, List.setIfInBounds_toArray, List.set_cons_zero, List.set_cons_succ])) | (refine lex_pass rfl (by rfl) (by assumption) ?_; (try simp only [Act.put, List.setIfInBounds_toArray, List.set_cons_zero, List.set_cons_succ])))
          (refine lex_call rfl (by rfl) (fun K hq => ?_); go_simp)
          go_at_call 15
          refine (hPa.out _ q0.out.below).mono ?_; rintro e v1 ⟨rfl, hb1⟩
          have q1 := Lay2.next q0.out hb1
          clear hHeld hb1 q0
          have hHeld : (fun W : World => (W.cell? ⟨w.heap.size, 0, none⟩ = some (.int .i64 x) ∧ W.cell? ⟨w.heap.size, 1, none⟩ = some (.int .i64 y)) ∧ (W.cell? ⟨(w.heap.size + 1), 0, none⟩ = some (.int .i64 x2) ∧ W.cell? ⟨(w.heap.size + 1), 1, none⟩ = some (.int .i64 y2))) v1 := ⟨q1.cells (b := w.heap.size) (p := (x, y)) (by simp), q1.cells (b := (w.heap.size + 1)) (p := (x2, y2)) (by simp)⟩
          replace q1 := Lib.hid q1
          go_wp2_with fail
          (refine hq.out _ _ (fun W : World => (W.cell? ⟨w.heap.size, 0, none⟩ = some (.int .i64 x) ∧ W.cell? ⟨w.heap.size, 1, none⟩ = some (.int .i64 y)) ∧ (W.cell? ⟨(w.heap.size + 1), 0, none⟩ = some (.int .i64 x2) ∧ W.cell? ⟨(w.heap.size + 1), 1, none⟩ = some (.int .i64 y2))) (fun _ h => h) hHeld ?_; clear hq K; (try simp only [Act.put, List.setIfInBounds_toArray, List.set_cons_zero, List.set_cons_succ]))
          repeat (first | (refine lex_take (v := ?_) rfl (by rfl) (by assumption) ?_ ?_; rotate_left 1; (focus (intro w hSw; (try dsimp only at hSw); go_simp; (try with_reducible rfl))); (try simp only [Act.put, List.setIfInBounds_toArray, List.set_cons_zero, List.set_cons_succ])) | (refine lex_pass rfl (by rfl) (by assumption) ?_; (try simp only [Act.put, List.setIfInBounds_toArray, List.set_cons_zero, List.set_cons_succ])))
          (refine lex_call rfl (by rfl) (fun K hq => ?_); go_simp)
          go_at_call 15
          refine (hPb.out _ q1.out.below).mono ?_; rintro e v2 ⟨rfl, hb2⟩
          have q2 := Lay2.next q1.out hb2
          clear hHeld hb2 q1
          have hHeld : (fun W : World => (W.cell? ⟨w.heap.size, 0, none⟩ = some (.int .i64 x) ∧ W.cell? ⟨w.heap.size, 1, none⟩ = some (.int .i64 y)) ∧ (W.cell? ⟨(w.heap.size + 1), 0, none⟩ = some (.int .i64 x2) ∧ W.cell? ⟨(w.heap.size + 1), 1, none⟩ = some (.int .i64 y2))) v2 := ⟨q2.cells (b := w.heap.size) (p := (x, y)) (by simp), q2.cells (b := (w.heap.size + 1)) (p := (x2, y2)) (by simp)⟩
          replace q2 := Lib.hid q2
          go_wp2_with fail
          (refine hq.out _ _ (fun W : World => (W.cell? ⟨w.heap.size, 0, none⟩ = some (.int .i64 x) ∧ W.cell? ⟨w.heap.size, 1, none⟩ = some (.int .i64 y)) ∧ (W.cell? ⟨(w.heap.size + 1), 0, none⟩ = some (.int .i64 x2) ∧ W.cell? ⟨(w.heap.size + 1), 1, none⟩ = some (.int .i64 y2))) (fun _ h => h) hHeld ?_; clear hq K; (try simp only [Act.put, List.setIfInBounds_toArray, List.set_cons_zero, List.set_cons_succ]))
          repeat (first | (refine lex_take (v := ?_) rfl (by rfl) (by assumption) ?_ ?_; rotate_left 1; (focus (intro w hSw; (try dsimp only at hSw); go_simp; (try with_reducible rfl))); (try simp only [Act.put, List.setIfInBounds_toArray, List.set_cons_zero, List.set_cons_succ])) | (refine lex_pass rfl (by rfl) (by assumption) ?_; (try simp only [Act.put, List.setIfInBounds_toArray, List.set_cons_zero, List.set_cons_succ])))
          (refine lex_call rfl (by rfl) (fun K hq => ?_); go_simp)
          go_at_call 8
          refine (hAw.out _ q2.out.below).mono ?_; rintro e v3 ⟨rfl, hb3⟩
          have q3 := Lay2.next q2.out hb3
          clear hHeld hb3 q2
          have hHeld : (fun W : World => (W.cell? ⟨w.heap.size, 0, none⟩ = some (.int .i64 x) ∧ W.cell? ⟨w.heap.size, 1, none⟩ = some (.int .i64 y)) ∧ (W.cell? ⟨(w.heap.size + 1), 0, none⟩ = some (.int .i64 x2) ∧ W.cell? ⟨(w.heap.size + 1), 1, none⟩ = some (.int .i64 y2))) v3 := ⟨q3.cells (b := w.heap.size) (p := (x, y)) (by simp), q3.cells (b := (w.heap.size + 1)) (p := (x2, y2)) (by simp)⟩
          replace q3 := Lib.hid q3
          go_wp2_with fail
          (refine hq.out _ _ (fun W : World => (W.cell? ⟨w.heap.size, 0, none⟩ = some (.int .i64 x) ∧ W.cell? ⟨w.heap.size, 1, none⟩ = some (.int .i64 y)) ∧ (W.cell? ⟨(w.heap.size + 1), 0, none⟩ = some (.int .i64 x2) ∧ W.cell? ⟨(w.heap.size + 1), 1, none⟩ = some (.int .i64 y2))) (fun _ h => h) hHeld ?_; clear hq K; (try simp only [Act.put, List.setIfInBounds_toArray, List.set_cons_zero, List.set_cons_succ]))
          repeat (first | (refine lex_take (v := ?_) rfl (by rfl) (by assumption) ?_ ?_; rotate_left 1; (focus (intro w hSw; (try dsimp only at hSw); go_simp; (try with_reducible rfl))); (try simp only [Act.put, List.setIfInBounds_toArray, List.set_cons_zero, List.set_cons_succ])) | (refine lex_pass rfl (by rfl) (by assumption) ?_; (try simp only [Act.put, List.setIfInBounds_toArray, List.set_cons_zero, List.set_cons_succ])))
          refine lex_end ?_
          refine hR.out _ _ ?_
          clear hR R
          go_wp2_with fail
          go_ret
          exact ⟨rfl, q3.out.below⟩
        · have hP4 := hright rfl
          subst hP4
          clear hwrong hright
          replace hRx := Lib.hid hRx
          go_enter Tryz.func4, Tryz.ntmps4
          go_upto_region 1 with fail
          refine wp_region_lex [(true, 0), (true, 1), (true, 2), (true, 3), (true, 4), (false, 5), (true, 6), (true, 7), (true, 8), (true, 9), (false, 10), (true, 11), (true, 12), (true, 13), (true, 14), (true, 15), (true, 16), (false, 17), (true, 18), (true, 19), (true, 20), (false, 21), (true, 22), (true, 23), (true, 24), (true, 25), (true, 26), (false, 27), (true, 28), (true, 29), (true, 30), (false, 31), (true, 32), (true, 33), (true, 34), (true, 35), (false, 36), (true, 37), (true, 38), (true, 39)] (fun W : World => (W.cell? ⟨w.heap.size, 0, none⟩ = some (.int .i64 x) ∧ W.cell? ⟨w.heap.size, 1, none⟩ = some (.int .i64 y)) ∧ (W.cell? ⟨(w.heap.size + 1), 0, none⟩ = some (.int .i64 x2) ∧ W.cell? ⟨(w.heap.size + 1), 1, none⟩ = some (.int .i64 y2)) ∧ (W.cell? ⟨(w.heap.size + 2), 0, none⟩ = some (.int .i64 x3) ∧ W.cell? ⟨(w.heap.size + 2), 1, none⟩ = some (.int .i64 y3))) (by kernel_rfl) (by kernel_rfl) (fun R hR => ?_)
          have q0 := (L0.out).drew
          have hHeld : (fun W : World => (W.cell? ⟨w.heap.size, 0, none⟩ = some (.int .i64 x) ∧ W.cell? ⟨w.heap.size, 1, none⟩ = some (.int .i64 y)) ∧ (W.cell? ⟨(w.heap.size + 1), 0, none⟩ = some (.int .i64 x2) ∧ W.cell? ⟨(w.heap.size + 1), 1, none⟩ = some (.int .i64 y2)) ∧ (W.cell? ⟨(w.heap.size + 2), 0, none⟩ = some (.int .i64 x3) ∧ W.cell? ⟨(w.heap.size + 2), 1, none⟩ = some (.int .i64 y3))) _ := ⟨q0.cells (b := w.heap.size) (p := (x, y)) (by simp), q0.cells (b := (w.heap.size + 1)) (p := (x2, y2)) (by simp), q0.cells (b := (w.heap.size + 2)) (p := (x3, y3)) (by simp)⟩
          replace q0 := Lib.hid q0
          repeat (first | (refine lex_take (v := ?_) rfl (by rfl) (by assumption) ?_ ?_; rotate_left 1; (focus (intro w hSw; (try dsimp only at hSw); go_simp; (try with_reducible rfl))); (try simp only [Act.put, List.setIfInBounds_toArray, List.set_cons_zero, List.set_cons_succ])) | (refine lex_pass rfl (by rfl) (by assumption) ?_; (try simp only [Act.put, List.setIfInBounds_toArray, List.set_cons_zero, List.set_cons_succ])))
          (refine lex_call rfl (by rfl) (fun K hq => ?_); go_simp)
          go_at_call 13
          refine (hAB.out _).mono ?_; rintro e v1 ⟨rfl, hb1⟩
          have q1 := Lay2.next q0.out hb1
          clear hHeld hb1 q0
          have hHeld : (fun W : World => (W.cell? ⟨w.heap.size, 0, none⟩ = some (.int .i64 x) ∧ W.cell? ⟨w.heap.size, 1, none⟩ = some (.int .i64 y)) ∧ (W.cell? ⟨(w.heap.size + 1), 0, none⟩ = some (.int .i64 x2) ∧ W.cell? ⟨(w.heap.size + 1), 1, none⟩ = some (.int .i64 y2)) ∧ (W.cell? ⟨(w.heap.size + 2), 0, none⟩ = some (.int .i64 x3) ∧ W.cell? ⟨(w.heap.size + 2), 1, none⟩ = some (.int .i64 y3))) v1 := ⟨q1.cells (b := w.heap.size) (p := (x, y)) (by simp), q1.cells (b := (w.heap.size + 1)) (p := (x2, y2)) (by simp), q1.cells (b := (w.heap.size + 2)) (p := (x3, y3)) (by simp)⟩
          replace q1 := Lib.hid q1
          go_wp2_with fail
          (refine hq.out _ _ (fun W : World => (W.cell? ⟨w.heap.size, 0, none⟩ = some (.int .i64 x) ∧ W.cell? ⟨w.heap.size, 1, none⟩ = some (.int .i64 y)) ∧ (W.cell? ⟨(w.heap.size + 1), 0, none⟩ = some (.int .i64 x2) ∧ W.cell? ⟨(w.heap.size + 1), 1, none⟩ = some (.int .i64 y2)) ∧ (W.cell? ⟨(w.heap.size + 2), 0, none⟩ = some (.int .i64 x3) ∧ W.cell? ⟨(w.heap.size + 2), 1, none⟩ = some (.int .i64 y3))) (fun _ h => h) hHeld ?_; clear hq K; (try simp only [Act.put, List.setIfInBounds_toArray, List.set_cons_zero, List.set_cons_succ]))
          repeat (first | (refine lex_take (v := ?_) rfl (by rfl) (by assumption) ?_ ?_; rotate_left 1; (focus (intro w hSw; (try dsimp only at hSw); go_simp; (try with_reducible rfl))); (try simp only [Act.put, List.setIfInBounds_toArray, List.set_cons_zero, List.set_cons_succ])) | (refine lex_pass rfl (by rfl) (by assumption) ?_; (try simp only [Act.put, List.setIfInBounds_toArray, List.set_cons_zero, List.set_cons_succ])))
          (refine lex_call rfl (by rfl) (fun K hq => ?_); go_simp)
          go_at_call 13
          refine (hAB.out _).mono ?_; rintro e v2 ⟨rfl, hb2⟩
          have q2 := Lay2.next q1.out hb2
          clear hHeld hb2 q1
          have hHeld : (fun W : World => (W.cell? ⟨w.heap.size, 0, none⟩ = some (.int .i64 x) ∧ W.cell? ⟨w.heap.size, 1, none⟩ = some (.int .i64 y)) ∧ (W.cell? ⟨(w.heap.size + 1), 0, none⟩ = some (.int .i64 x2) ∧ W.cell? ⟨(w.heap.size + 1), 1, none⟩ = some (.int .i64 y2)) ∧ (W.cell? ⟨(w.heap.size + 2), 0, none⟩ = some (.int .i64 x3) ∧ W.cell? ⟨(w.heap.size + 2), 1, none⟩ = some (.int .i64 y3))) v2 := ⟨q2.cells (b := w.heap.size) (p := (x, y)) (by simp), q2.cells (b := (w.heap.size + 1)) (p := (x2, y2)) (by simp), q2.cells (b := (w.heap.size + 2)) (p := (x3, y3)) (by simp)⟩
          replace q2 := Lib.hid q2
          go_wp2_with fail
          (refine hq.out _ _ (fun W : World => (W.cell? ⟨w.heap.size, 0, none⟩ = some (.int .i64 x) ∧ W.cell? ⟨w.heap.size, 1, none⟩ = some (.int .i64 y)) ∧ (W.cell? ⟨(w.heap.size + 1), 0, none⟩ = some (.int .i64 x2) ∧ W.cell? ⟨(w.heap.size + 1), 1, none⟩ = some (.int .i64 y2)) ∧ (W.cell? ⟨(w.heap.size + 2), 0, none⟩ = some (.int .i64 x3) ∧ W.cell? ⟨(w.heap.size + 2), 1, none⟩ = some (.int .i64 y3))) (fun _ h => h) hHeld ?_; clear hq K; (try simp only [Act.put, List.setIfInBounds_toArray, List.set_cons_zero, List.set_cons_succ]))
          repeat (first | (refine lex_take (v := ?_) rfl (by rfl) (by assumption) ?_ ?_; rotate_left 1; (focus (intro w hSw; (try dsimp only at hSw); go_simp; (try with_reducible rfl))); (try simp only [Act.put, List.setIfInBounds_toArray, List.set_cons_zero, List.set_cons_succ])) | (refine lex_pass rfl (by rfl) (by assumption) ?_; (try simp only [Act.put, List.setIfInBounds_toArray, List.set_cons_zero, List.set_cons_succ])))
          (refine lex_call rfl (by rfl) (fun K hq => ?_); go_simp)
          go_at_call 13
          refine (hBA.out _).mono ?_; rintro e v3 ⟨rfl, hb3⟩
          have q3 := Lay2.next q2.out hb3
          clear hHeld hb3 q2
          have hHeld : (fun W : World => (W.cell? ⟨w.heap.size, 0, none⟩ = some (.int .i64 x) ∧ W.cell? ⟨w.heap.size, 1, none⟩ = some (.int .i64 y)) ∧ (W.cell? ⟨(w.heap.size + 1), 0, none⟩ = some (.int .i64 x2) ∧ W.cell? ⟨(w.heap.size + 1), 1, none⟩ = some (.int .i64 y2)) ∧ (W.cell? ⟨(w.heap.size + 2), 0, none⟩ = some (.int .i64 x3) ∧ W.cell? ⟨(w.heap.size + 2), 1, none⟩ = some (.int .i64 y3))) v3 := ⟨q3.cells (b := w.heap.size) (p := (x, y)) (by simp), q3.cells (b := (w.heap.size + 1)) (p := (x2, y2)) (by simp), q3.cells (b := (w.heap.size + 2)) (p := (x3, y3)) (by simp)⟩
          replace q3 := Lib.hid q3
          go_wp2_with fail
          (refine hq.out _ _ (fun W : World => (W.cell? ⟨w.heap.size, 0, none⟩ = some (.int .i64 x) ∧ W.cell? ⟨w.heap.size, 1, none⟩ = some (.int .i64 y)) ∧ (W.cell? ⟨(w.heap.size + 1), 0, none⟩ = some (.int .i64 x2) ∧ W.cell? ⟨(w.heap.size + 1), 1, none⟩ = some (.int .i64 y2)) ∧ (W.cell? ⟨(w.heap.size + 2), 0, none⟩ = some (.int .i64 x3) ∧ W.cell? ⟨(w.heap.size + 2), 1, none⟩ = some (.int .i64 y3))) (fun _ h => h) hHeld ?_; clear hq K; (try simp only [Act.put, List.setIfInBounds_toArray, List.set_cons_zero, List.set_cons_succ]))
          repeat (first | (refine lex_take (v := ?_) rfl (by rfl) (by assumption) ?_ ?_; rotate_left 1; (focus (intro w hSw; (try dsimp only at hSw); go_simp; (try with_reducible rfl))); (try simp only [Act.put, List.setIfInBounds_toArray, List.set_cons_zero, List.set_cons_succ])) | (refine lex_pass rfl (by rfl) (by assumption) ?_; (try simp only [Act.put, List.setIfInBounds_toArray, List.set_cons_zero, List.set_cons_succ])))
          (refine lex_call rfl (by rfl) (fun K hq => ?_); go_simp)
          go_at_call 13
          refine (hAB.out _).mono ?_; rintro e v4 ⟨rfl, hb4⟩
          have q4 := Lay2.next q3.out hb4
          clear hHeld hb4 q3
          have hHeld : (fun W : World => (W.cell? ⟨w.heap.size, 0, none⟩ = some (.int .i64 x) ∧ W.cell? ⟨w.heap.size, 1, none⟩ = some (.int .i64 y)) ∧ (W.cell? ⟨(w.heap.size + 1), 0, none⟩ = some (.int .i64 x2) ∧ W.cell? ⟨(w.heap.size + 1), 1, none⟩ = some (.int .i64 y2)) ∧ (W.cell? ⟨(w.heap.size + 2), 0, none⟩ = some (.int .i64 x3) ∧ W.cell? ⟨(w.heap.size + 2), 1, none⟩ = some (.int .i64 y3))) v4 := ⟨q4.cells (b := w.heap.size) (p := (x, y)) (by simp), q4.cells (b := (w.heap.size + 1)) (p := (x2, y2)) (by simp), q4.cells (b := (w.heap.size + 2)) (p := (x3, y3)) (by simp)⟩
          replace q4 := Lib.hid q4
          go_wp2_with fail
          (refine hq.out _ _ (fun W : World => (W.cell? ⟨w.heap.size, 0, none⟩ = some (.int .i64 x) ∧ W.cell? ⟨w.heap.size, 1, none⟩ = some (.int .i64 y)) ∧ (W.cell? ⟨(w.heap.size + 1), 0, none⟩ = some (.int .i64 x2) ∧ W.cell? ⟨(w.heap.size + 1), 1, none⟩ = some (.int .i64 y2)) ∧ (W.cell? ⟨(w.heap.size + 2), 0, none⟩ = some (.int .i64 x3) ∧ W.cell? ⟨(w.heap.size + 2), 1, none⟩ = some (.int .i64 y3))) (fun _ h => h) hHeld ?_; clear hq K; (try simp only [Act.put, List.setIfInBounds_toArray, List.set_cons_zero, List.set_cons_succ]))
          repeat (first | (refine lex_take (v := ?_) rfl (by rfl) (by assumption) ?_ ?_; rotate_left 1; (focus (intro w hSw; (try dsimp only at hSw); go_simp; (try with_reducible rfl))); (try simp only [Act.put, List.setIfInBounds_toArray, List.set_cons_zero, List.set_cons_succ])) | (refine lex_pass rfl (by rfl) (by assumption) ?_; (try simp only [Act.put, List.setIfInBounds_toArray, List.set_cons_zero, List.set_cons_succ])))
          (refine lex_call rfl (by rfl) (fun K hq => ?_); go_simp)
          go_at_call 13
          refine (hBC.out _).mono ?_; rintro e v5 ⟨rfl, hb5⟩
          have q5 := Lay2.next q4.out hb5
          clear hHeld hb5 q4
          have hHeld : (fun W : World => (W.cell? ⟨w.heap.size, 0, none⟩ = some (.int .i64 x) ∧ W.cell? ⟨w.heap.size, 1, none⟩ = some (.int .i64 y)) ∧ (W.cell? ⟨(w.heap.size + 1), 0, none⟩ = some (.int .i64 x2) ∧ W.cell? ⟨(w.heap.size + 1), 1, none⟩ = some (.int .i64 y2)) ∧ (W.cell? ⟨(w.heap.size + 2), 0, none⟩ = some (.int .i64 x3) ∧ W.cell? ⟨(w.heap.size + 2), 1, none⟩ = some (.int .i64 y3))) v5 := ⟨q5.cells (b := w.heap.size) (p := (x, y)) (by simp), q5.cells (b := (w.heap.size + 1)) (p := (x2, y2)) (by simp), q5.cells (b := (w.heap.size + 2)) (p := (x3, y3)) (by simp)⟩
          replace q5 := Lib.hid q5
          go_wp2_with fail
          (refine hq.out _ _ (fun W : World => (W.cell? ⟨w.heap.size, 0, none⟩ = some (.int .i64 x) ∧ W.cell? ⟨w.heap.size, 1, none⟩ = some (.int .i64 y)) ∧ (W.cell? ⟨(w.heap.size + 1), 0, none⟩ = some (.int .i64 x2) ∧ W.cell? ⟨(w.heap.size + 1), 1, none⟩ = some (.int .i64 y2)) ∧ (W.cell? ⟨(w.heap.size + 2), 0, none⟩ = some (.int .i64 x3) ∧ W.cell? ⟨(w.heap.size + 2), 1, none⟩ = some (.int .i64 y3))) (fun _ h => h) hHeld ?_; clear hq K; (try simp only [Act.put, List.setIfInBounds_toArray, List.set_cons_zero, List.set_cons_succ]))
          repeat (first | (refine lex_take (v := ?_) rfl (by rfl) (by assumption) ?_ ?_; rotate_left 1; (focus (intro w hSw; (try dsimp only at hSw); go_simp; (try with_reducible rfl))); (try simp only [Act.put, List.setIfInBounds_toArray, List.set_cons_zero, List.set_cons_succ])) | (refine lex_pass rfl (by rfl) (by assumption) ?_; (try simp only [Act.put, List.setIfInBounds_toArray, List.set_cons_zero, List.set_cons_succ])))
          refine lex_end ?_
          refine hR.out _ _ ?_
          clear hR R
          have L1 := q5
          clear q5
          go_upto_region 3 with fail
          obtain ⟨x0, x1⟩ := L1.out.cells (b := w.heap.size) (p := (x, y)) (by simp)
          go_wp2_with fail
          refine (hPa.out _ L1.out.below).mono ?_; rintro e w2 ⟨rfl, hb⟩
          have L2 := L1.out.next hb
          replace L2 := Lib.hid L2
          clear hb x0 x1
          go_wp2_with fail
          refine (hPs.out _ L2.out.below).mono ?_; rintro e w3 ⟨v, rfl, hv, hb⟩
          have L3 := L2.out.next hb
          clear hb
          obtain ⟨_, rfl⟩ := hv.resolve_right (fun h => h.1 rfl)
          clear hv
          replace L3 := Lib.hid L3
          go_upto_region 4 with fail
          refine worldI (α := fun W' => Code.wp _ _ _ _ W') (Lay2 w sv ((w3.heap.size, (x, y)) :: [(w.heap.size, (x, y)), (w.heap.size + 1, (x2, y2)), (w.heap.size + 2, (x3, y3))]) .nilIface [] 0) (L3.out.add x y) fun W4 L4 => ?_
          obtain ⟨x0, x1⟩ := L4.cells (b := w.heap.size) (p := (x, y)) (by simp)
          replace L4 := Lib.hid L4
          go_wp2_with fail
          refine (hRx.out _).mono ?_; rintro e w6 ⟨rfl, hb⟩
          have L6 := L4.out.next hb
          clear hb x0 x1
          obtain ⟨x0, x1⟩ := L6.cells (b := w.heap.size) (p := (x, y)) (by simp)
          obtain ⟨z0, z1⟩ := L6.cells (b := w3.heap.size) (p := (x, y)) (by simp)
          replace L6 := Lib.hid L6
          go_wp2_with fail
          refine (hRx.out _).mono ?_; rintro e w5 ⟨rfl, hb⟩
          have L5 := L6.out.next hb
          clear hb x0 x1 z0 z1
          replace L5 := Lib.hid L5
          go_upto_region 6 with fail
          refine wp_region_lex [(true, 0), (true, 2), (true, 5), (true, 6), (true, 7), (false, 1), (false, 3), (true, 4), (true, 8), (true, 9), (false, 10), (true, 11), (true, 12)] (fun W : World => (W.cell? ⟨w.heap.size, 0, none⟩ = some (.int .i64 x) ∧ W.cell? ⟨w.heap.size, 1, none⟩ = some (.int .i64 y)) ∧ (W.cell? ⟨(w.heap.size + 1), 0, none⟩ = some (.int .i64 x2) ∧ W.cell? ⟨(w.heap.size + 1), 1, none⟩ = some (.int .i64 y2))) (by kernel_rfl) (by kernel_rfl) (fun R hR => ?_)
          have q0 := (L5.out).drew
          have hHeld : (fun W : World => (W.cell? ⟨w.heap.size, 0, none⟩ = some (.int .i64 x) ∧ W.cell? ⟨w.heap.size, 1, none⟩ = some (.int .i64 y)) ∧ (W.cell? ⟨(w.heap.size + 1), 0, none⟩ = some (.int .i64 x2) ∧ W.cell? ⟨(w.heap.size + 1), 1, none⟩ = some (.int .i64 y2))) _ := ⟨q0.cells (b := w.heap.size) (p := (x, y)) (by simp), q0.cells (b := (w.heap.size + 1)) (p := (x2, y2)) (by simp)⟩
          replace q0 := Lib.hid q0
          repeat (first | (refine lex_take (v := ?_) rfl (by rfl) (by assumption) ?_ ?_; rotate_left 1; (focus (intro w hSw; (try dsimp only at hSw); go_simp; (try with_reducible rfl))); (try simp only [Act.put, List.setIfInBounds_toArray, List.set_cons_zero, List.set_cons_succ])) | (refine lex_pass rfl (by rfl) (by assumption) ?_; (try simp only [Act.put, List.setIfInBounds_toArray, List.set_cons_zero, List.set_cons_succ])))
          (refine lex_call rfl (by rfl) (fun K hq => ?_); go_simp)
          go_at_call 15
          refine (hPa.out _ q0.out.below).mono ?_; rintro e v1 ⟨rfl, hb1⟩
          have q1 := Lay2.next q0.out hb1
          clear hHeld hb1 q0
          have hHeld : (fun W : World => (W.cell? ⟨w.heap.size, 0, none⟩ = some (.int .i64 x) ∧ W.cell? ⟨w.heap.size, 1, none⟩ = some (.int .i64 y)) ∧ (W.cell? ⟨(w.heap.size + 1), 0, none⟩ = some (.int .i64 x2) ∧ W.cell? ⟨(w.heap.size + 1), 1, none⟩ = some (.int .i64 y2))) v1 := ⟨q1.cells (b := w.heap.size) (p := (x, y)) (by simp), q1.cells (b := (w.heap.size + 1)) (p := (x2, y2)) (by simp)⟩
          replace q1 := Lib.hid q1
          go_wp2_with fail
          (refine hq.out _ _ (fun W : World => (W.cell? ⟨w.heap.size, 0, none⟩ = some (.int .i64 x) ∧ W.cell? ⟨w.heap.size, 1, none⟩ = some (.int .i64 y)) ∧ (W.cell? ⟨(w.heap.size + 1), 0, none⟩ = some (.int .i64 x2) ∧ W.cell? ⟨(w.heap.size + 1), 1, none⟩ = some (.int .i64 y2))) (fun _ h => h) hHeld ?_; clear hq K; (try simp only [Act.put, List.setIfInBounds_toArray, List.set_cons_zero, List.set_cons_succ]))
          repeat (first | (refine lex_take (v := ?_) rfl (by rfl) (by assumption) ?_ ?_; rotate_left 1; (focus (intro w hSw; (try dsimp only at hSw); go_simp; (try with_reducible rfl))); (try simp only [Act.put, List.setIfInBounds_toArray, List.set_cons_zero, List.set_cons_succ])) | (refine lex_pass rfl (by rfl) (by assumption) ?_; (try simp only [Act.put, List.setIfInBounds_toArray, List.set_cons_zero, List.set_cons_succ])))
          (refine lex_call rfl (by rfl) (fun K hq => ?_); go_simp)
          go_at_call 15
          refine (hPb.out _ q1.out.below).mono ?_; rintro e v2 ⟨rfl, hb2⟩
          have q2 := Lay2.next q1.out hb2
          clear hHeld hb2 q1
          have hHeld : (fun W : World => (W.cell? ⟨w.heap.size, 0, none⟩ = some (.int .i64 x) ∧ W.cell? ⟨w.heap.size, 1, none⟩ = some (.int .i64 y)) ∧ (W.cell? ⟨(w.heap.size + 1), 0, none⟩ = some (.int .i64 x2) ∧ W.cell? ⟨(w.heap.size + 1), 1, none⟩ = some (.int .i64 y2))) v2 := ⟨q2.cells (b := w.heap.size) (p := (x, y)) (by simp), q2.cells (b := (w.heap.size + 1)) (p := (x2, y2)) (by simp)⟩
          replace q2 := Lib.hid q2
          go_wp2_with fail
          (refine hq.out _ _ (fun W : World => (W.cell? ⟨w.heap.size, 0, none⟩ = some (.int .i64 x) ∧ W.cell? ⟨w.heap.size, 1, none⟩ = some (.int .i64 y)) ∧ (W.cell? ⟨(w.heap.size + 1), 0, none⟩ = some (.int .i64 x2) ∧ W.cell? ⟨(w.heap.size + 1), 1, none⟩ = some (.int .i64 y2))) (fun _ h => h) hHeld ?_; clear hq K; (try simp only [Act.put, List.setIfInBounds_toArray, List.set_cons_zero, List.set_cons_succ]))
          repeat (first | (refine lex_take (v := ?_) rfl (by rfl) (by assumption) ?_ ?_; rotate_left 1; (focus (intro w hSw; (try dsimp only at hSw); go_simp; (try with_reducible rfl))); (try simp only [Act.put, List.setIfInBounds_toArray, List.set_cons_zero, List.set_cons_succ])) | (refine lex_pass rfl (by rfl) (by assumption) ?_; (try simp only [Act.put, List.setIfInBounds_toArray, List.set_cons_zero, List.set_cons_succ])))
          (refine lex_call rfl (by rfl) (fun K hq => ?_); go_simp)
          go_at_call 8
          refine (hAw.out _ q2.out.below).mono ?_; rintro e v3 ⟨rfl, hb3⟩
          have q3 := Lay2.next q2.out hb3
          clear hHeld hb3 q2
          have hHeld : (fun W : World => (W.cell? ⟨w.heap.size, 0, none⟩ = some (.int .i64 x) ∧ W.cell? ⟨w.heap.size, 1, none⟩ = some (.int .i64 y)) ∧ (W.cell? ⟨(w.heap.size + 1), 0, none⟩ = some (.int .i64 x2) ∧ W.cell? ⟨(w.heap.size + 1), 1, none⟩ = some (.int .i64 y2))) v3 := ⟨q3.cells (b := w.heap.size) (p := (x, y)) (by simp), q3.cells (b := (w.heap.size + 1)) (p := (x2, y2)) (by simp)⟩
          replace q3 := Lib.hid q3
          go_wp2_with fail
          (refine hq.out _ _ (fun W : World => (W.cell? ⟨w.heap.size, 0, none⟩ = some (.int .i64 x) ∧ W.cell? ⟨w.heap.size, 1, none⟩ = some (.int .i64 y)) ∧ (W.cell? ⟨(w.heap.size + 1), 0, none⟩ = some (.int .i64 x2) ∧ W.cell? ⟨(w.heap.size + 1), 1, none⟩ = some (.int .i64 y2))) (fun _ h => h) hHeld ?_; clear hq K; (try simp only [Act.put, List.setIfInBounds_toArray, List.set_cons_zero, List.set_cons_succ]))
          repeat (first | (refine lex_take (v := ?_) rfl (by rfl) (by assumption) ?_ ?_; rotate_left 1; (focus (intro w hSw; (try dsimp only at hSw); go_simp; (try with_reducible rfl))); (try simp only [Act.put, List.setIfInBounds_toArray, List.set_cons_zero, List.set_cons_succ])) | (refine lex_pass rfl (by rfl) (by assumption) ?_; (try simp only [Act.put, List.setIfInBounds_toArray, List.set_cons_zero, List.set_cons_succ])))
          refine lex_end ?_
          refine hR.out _ _ ?_
          clear hR R
          go_wp2_with fail
          go_ret
          exact ⟨rfl, q3.out.below⟩
      · subst h0
        cases rx
        · have hP4 := Lib.hid (hwrong rfl)
          clear hwrong hright
          replace hRx := Lib.hid hRx
          go_enter Tryz.func4, Tryz.ntmps4
          go_upto_region 1 with fail
          refine wp_region_lex [(true, 0), (true, 1), (true, 2), (true, 3), (true, 4), (false, 5), (true, 6), (true, 7), (true, 8), (true, 9), (false, 10), (true, 11), (true, 12), (true, 13), (true, 14), (true, 15), (true, 16), (false, 17), (true, 18), (true, 19), (true, 20), (false, 21), (true, 22), (true, 23), (true, 24), (true, 25), (true, 26), (false, 27), (true, 28), (true, 29), (true, 30), (false, 31), (true, 32), (true, 33), (true, 34), (true, 35), (false, 36), (true, 37), (true, 38), (true, 39)] (fun W : World => (W.cell? ⟨w.heap.size, 0, none⟩ = some (.int .i64 x) ∧ W.cell? ⟨w.heap.size, 1, none⟩ = some (.int .i64 y)) ∧ (W.cell? ⟨(w.heap.size + 1), 0, none⟩ = some (.int .i64 x) ∧ W.cell? ⟨(w.heap.size + 1), 1, none⟩ = some (.int .i64 y2)) ∧ (W.cell? ⟨(w.heap.size + 2), 0, none⟩ = some (.int .i64 x3) ∧ W.cell? ⟨(w.heap.size + 2), 1, none⟩ = some (.int .i64 y3))) (by kernel_rfl) (by kernel_rfl) (fun R hR => ?_)
          have q0 := (L0.out).drew
          have hHeld : (fun W : World => (W.cell? ⟨w.heap.size, 0, none⟩ = some (.int .i64 x) ∧ W.cell? ⟨w.heap.size, 1, none⟩ = some (.int .i64 y)) ∧ (W.cell? ⟨(w.heap.size + 1), 0, none⟩ = some (.int .i64 x) ∧ W.cell? ⟨(w.heap.size + 1), 1, none⟩ = some (.int .i64 y2)) ∧ (W.cell? ⟨(w.heap.size + 2), 0, none⟩ = some (.int .i64 x3) ∧ W.cell? ⟨(w.heap.size + 2), 1, none⟩ = some (.int .i64 y3))) _ := ⟨q0.cells (b := w.heap.size) (p := (x, y)) (by simp), q0.cells (b := (w.heap.size + 1)) (p := (x, y2)) (by simp), q0.cells (b := (w.heap.size + 2)) (p := (x3, y3)) (by simp)⟩
          replace q0 := Lib.hid q0
          repeat (first | (refine lex_take (v := ?_) rfl (by rfl) (by assumption) ?_ ?_; rotate_left 1; (focus (intro w hSw; (try dsimp only at hSw); go_simp; (try with_reducible rfl))); (try simp only [Act.put, List.setIfInBounds_toArray, List.set_cons_zero, List.set_cons_succ])) | (refine lex_pass rfl (by rfl) (by assumption) ?_; (try simp only [Act.put, List.setIfInBounds_toArray, List.set_cons_zero, List.set_cons_succ])))
          (refine lex_call rfl (by rfl) (fun K hq => ?_); go_simp)
          go_at_call 13
          refine (hAB.out _).mono ?_; rintro e v1 ⟨rfl, hb1⟩
          have q1 := Lay2.next q0.out hb1
          clear hHeld hb1 q0
          have hHeld : (fun W : World => (W.cell? ⟨w.heap.size, 0, none⟩ = some (.int .i64 x) ∧ W.cell? ⟨w.heap.size, 1, none⟩ = some (.int .i64 y)) ∧ (W.cell? ⟨(w.heap.size + 1), 0, none⟩ = some (.int .i64 x) ∧ W.cell? ⟨(w.heap.size + 1), 1, none⟩ = some (.int .i64 y2)) ∧ (W.cell? ⟨(w.heap.size + 2), 0, none⟩ = some (.int .i64 x3) ∧ W.cell? ⟨(w.heap.size + 2), 1, none⟩ = some (.int .i64 y3))) v1 := ⟨q1.cells (b := w.heap.size) (p := (x, y)) (by simp), q1.cells (b := (w.heap.size + 1)) (p := (x, y2)) (by simp), q1.cells (b := (w.heap.size + 2)) (p := (x3, y3)) (by simp)⟩
          replace q1 := Lib.hid q1
          go_wp2_with fail
          (refine hq.out _ _ (fun W : World => (W.cell? ⟨w.heap.size, 0, none⟩ = some (.int .i64 x) ∧ W.cell? ⟨w.heap.size, 1, none⟩ = some (.int .i64 y)) ∧ (W.cell? ⟨(w.heap.size + 1), 0, none⟩ = some (.int .i64 x) ∧ W.cell? ⟨(w.heap.size + 1), 1, none⟩ = some (.int .i64 y2)) ∧ (W.cell? ⟨(w.heap.size + 2), 0, none⟩ = some (.int .i64 x3) ∧ W.cell? ⟨(w.heap.size + 2), 1, none⟩ = some (.int .i64 y3))) (fun _ h => h) hHeld ?_; clear hq K; (try simp only [Act.put, List.setIfInBounds_toArray, List.set_cons_zero, List.set_cons_succ]))
          repeat (first | (refine lex_take (v := ?_) rfl (by rfl) (by assumption) ?_ ?_; rotate_left 1; (focus (intro w hSw; (try dsimp only at hSw); go_simp; (try with_reducible rfl))); (try simp only [Act.put, List.setIfInBounds_toArray, List.set_cons_zero, List.set_cons_succ])) | (refine lex_pass rfl (by rfl) (by assumption) ?_; (try simp only [Act.put, List.setIfInBounds_toArray, List.set_cons_zero, List.set_cons_succ])))
          (refine lex_call rfl (by rfl) (fun K hq => ?_); go_simp)
          go_at_call 13
          refine (hAB.out _).mono ?_; rintro e v2 ⟨rfl, hb2⟩
          have q2 := Lay2.next q1.out hb2
          clear hHeld hb2 q1
          have hHeld : (fun W : World => (W.cell? ⟨w.heap.size, 0, none⟩ = some (.int .i64 x) ∧ W.cell? ⟨w.heap.size, 1, none⟩ = some (.int .i64 y)) ∧ (W.cell? ⟨(w.heap.size + 1), 0, none⟩ = some (.int .i64 x) ∧ W.cell? ⟨(w.heap.size + 1), 1, none⟩ = some (.int .i64 y2)) ∧ (W.cell? ⟨(w.heap.size + 2), 0, none⟩ = some (.int .i64 x3) ∧ W.cell? ⟨(w.heap.size + 2), 1, none⟩ = some (.int .i64 y3))) v2 := ⟨q2.cells (b := w.heap.size) (p := (x, y)) (by simp), q2.cells (b := (w.heap.size + 1)) (p := (x, y2)) (by simp), q2.cells (b := (w.heap.size + 2)) (p := (x3, y3)) (by simp)⟩
          replace q2 := Lib.hid q2
          go_wp2_with fail
          (refine hq.out _ _ (fun W : World => (W.cell? ⟨w.heap.size, 0, none⟩ = some (.int .i64 x) ∧ W.cell? ⟨w.heap.size, 1, none⟩ = some (.int .i64 y)) ∧ (W.cell? ⟨(w.heap.size + 1), 0, none⟩ = some (.int .i64 x) ∧ W.cell? ⟨(w.heap.size + 1), 1, none⟩ = some (.int .i64 y2)) ∧ (W.cell? ⟨(w.heap.size + 2), 0, none⟩ = some (.int .i64 x3) ∧ W.cell? ⟨(w.heap.size + 2), 1, none⟩ = some (.int .i64 y3))) (fun _ h => h) hHeld ?_; clear hq K; (try simp only [Act.put, List.setIfInBounds_toArray, List.set_cons_zero, List.set_cons_succ]))
          repeat (first | (refine lex_take (v := ?_) rfl (by rfl) (by assumption) ?_ ?_; rotate_left 1; (focus (intro w hSw; (try dsimp only at hSw); go_simp; (try with_reducible rfl))); (try simp only [Act.put, List.setIfInBounds_toArray, List.set_cons_zero, List.set_cons_succ])) | (refine lex_pass rfl (by rfl) (by assumption) ?_; (try simp only [Act.put, List.setIfInBounds_toArray, List.set_cons_zero, List.set_cons_succ])))
          (refine lex_call rfl (by rfl) (fun K hq => ?_); go_simp)
          go_at_call 13
          refine (hBA.out _).mono ?_; rintro e v3 ⟨rfl, hb3⟩
          have q3 := Lay2.next q2.out hb3
          clear hHeld hb3 q2
          have hHeld : (fun W : World => (W.cell? ⟨w.heap.size, 0, none⟩ = some (.int .i64 x) ∧ W.cell? ⟨w.heap.size, 1, none⟩ = some (.int .i64 y)) ∧ (W.cell? ⟨(w.heap.size + 1), 0, none⟩ = some (.int .i64 x) ∧ W.cell? ⟨(w.heap.size + 1), 1, none⟩ = some (.int .i64 y2)) ∧ (W.cell? ⟨(w.heap.size + 2), 0, none⟩ = some (.int .i64 x3) ∧ W.cell? ⟨(w.heap.size + 2), 1, none⟩ = some (.int .i64 y3))) v3 := ⟨q3.cells (b := w.heap.size) (p := (x, y)) (by simp), q3.cells (b := (w.heap.size + 1)) (p := (x, y2)) (by simp), q3.cells (b := (w.heap.size + 2)) (p := (x3, y3)) (by simp)⟩
          replace q3 := Lib.hid q3
          go_wp2_with fail
          (refine hq.out _ _ (fun W : World => (W.cell? ⟨w.heap.size, 0, none⟩ = some (.int .i64 x) ∧ W.cell? ⟨w.heap.size, 1, none⟩ = some (.int .i64 y)) ∧ (W.cell? ⟨(w.heap.size + 1), 0, none⟩ = some (.int .i64 x) ∧ W.cell? ⟨(w.heap.size + 1), 1, none⟩ = some (.int .i64 y2)) ∧ (W.cell? ⟨(w.heap.size + 2), 0, none⟩ = some (.int .i64 x3) ∧ W.cell? ⟨(w.heap.size + 2), 1, none⟩ = some (.int .i64 y3))) (fun _ h => h) hHeld ?_; clear hq K; (try simp only [Act.put, List.setIfInBounds_toArray, List.set_cons_zero, List.set_cons_succ]))
          repeat (first | (refine lex_take (v := ?_) rfl (by rfl) (by assumption) ?_ ?_; rotate_left 1; (focus (intro w hSw; (try dsimp only at hSw); go_simp; (try with_reducible rfl))); (try simp only [Act.put, List.setIfInBounds_toArray, List.set_cons_zero, List.set_cons_succ])) | (refine lex_pass rfl (by rfl) (by assumption) ?_; (try simp only [Act.put, List.setIfInBounds_toArray, List.set_cons_zero, List.set_cons_succ])))
          (refine lex_call rfl (by rfl) (fun K hq => ?_); go_simp)
          go_at_call 13
          refine (hAB.out _).mono ?_; rintro e v4 ⟨rfl, hb4⟩
          have q4 := Lay2.next q3.out hb4
          clear hHeld hb4 q3
          have hHeld : (fun W : World => (W.cell? ⟨w.heap.size, 0, none⟩ = some (.int .i64 x) ∧ W.cell? ⟨w.heap.size, 1, none⟩ = some (.int .i64 y)) ∧ (W.cell? ⟨(w.heap.size + 1), 0, none⟩ = some (.int .i64 x) ∧ W.cell? ⟨(w.heap.size + 1), 1, none⟩ = some (.int .i64 y2)) ∧ (W.cell? ⟨(w.heap.size + 2), 0, none⟩ = some (.int .i64 x3) ∧ W.cell? ⟨(w.heap.size + 2), 1, none⟩ = some (.int .i64 y3))) v4 := ⟨q4.cells (b := w.heap.size) (p := (x, y)) (by simp), q4.cells (b := (w.heap.size + 1)) (p := (x, y2)) (by simp), q4.cells (b := (w.heap.size + 2)) (p := (x3, y3)) (by simp)⟩
          replace q4 := Lib.hid q4
          go_wp2_with fail
          (refine hq.out _ _ (fun W : World => (W.cell? ⟨w.heap.size, 0, none⟩ = some (.int .i64 x) ∧ W.cell? ⟨w.heap.size, 1, none⟩ = some (.int .i64 y)) ∧ (W.cell? ⟨(w.heap.size + 1), 0, none⟩ = some (.int .i64 x) ∧ W.cell? ⟨(w.heap.size + 1), 1, none⟩ = some (.int .i64 y2)) ∧ (W.cell? ⟨(w.heap.size + 2), 0, none⟩ = some (.int .i64 x3) ∧ W.cell? ⟨(w.heap.size + 2), 1, none⟩ = some (.int .i64 y3))) (fun _ h => h) hHeld ?_; clear hq K; (try simp only [Act.put, List.setIfInBounds_toArray, List.set_cons_zero, List.set_cons_succ]))
          repeat (first | (refine lex_take (v := ?_) rfl (by rfl) (by assumption) ?_ ?_; rotate_left 1; (focus (intro w hSw; (try dsimp only at hSw); go_simp; (try with_reducible rfl))); (try simp only [Act.put, List.setIfInBounds_toArray, List.set_cons_zero, List.set_cons_succ])) | (refine lex_pass rfl (by rfl) (by assumption) ?_; (try simp only [Act.put, List.setIfInBounds_toArray, List.set_cons_zero, List.set_cons_succ])))
          (refine lex_call rfl (by rfl) (fun K hq => ?_); go_simp)
          go_at_call 13
          refine (hBC.out _).mono ?_; rintro e v5 ⟨rfl, hb5⟩
          have q5 := Lay2.next q4.out hb5
          clear hHeld hb5 q4
          have hHeld : (fun W : World => (W.cell? ⟨w.heap.size, 0, none⟩ = some (.int .i64 x) ∧ W.cell? ⟨w.heap.size, 1, none⟩ = some (.int .i64 y)) ∧ (W.cell? ⟨(w.heap.size + 1), 0, none⟩ = some (.int .i64 x) ∧ W.cell? ⟨(w.heap.size + 1), 1, none⟩ = some (.int .i64 y2)) ∧ (W.cell? ⟨(w.heap.size + 2), 0, none⟩ = some (.int .i64 x3) ∧ W.cell? ⟨(w.heap.size + 2), 1, none⟩ = some (.int .i64 y3))) v5 := ⟨q5.cells (b := w.heap.size) (p := (x, y)) (by simp), q5.cells (b := (w.heap.size + 1)) (p := (x, y2)) (by simp), q5.cells (b := (w.heap.size + 2)) (p := (x3, y3)) (by simp)⟩
          replace q5 := Lib.hid q5
          go_wp2_with fail
          (refine hq.out _ _ (fun W : World => (W.cell? ⟨w.heap.size, 0, none⟩ = some (.int .i64 x) ∧ W.cell? ⟨w.heap.size, 1, none⟩ = some (.int .i64 y)) ∧ (W.cell? ⟨(w.heap.size + 1), 0, none⟩ = some (.int .i64 x) ∧ W.cell? ⟨(w.heap.size + 1), 1, none⟩ = some (.int .i64 y2)) ∧ (W.cell? ⟨(w.heap.size + 2), 0, none⟩ = some (.int .i64 x3) ∧ W.cell? ⟨(w.heap.size + 2), 1, none⟩ = some (.int .i64 y3))) (fun _ h => h) hHeld ?_; clear hq K; (try simp only [Act.put, List.setIfInBounds_toArray, List.set_cons_zero, List.set_cons_succ]))
          repeat (first | (refine lex_take (v := ?_) rfl (by rfl) (by assumption) ?_ ?_; rotate_left 1; (focus (intro w hSw; (try dsimp only at hSw); go_simp; (try with_reducible rfl))); (try simp only [Act.put, List.setIfInBounds_toArray, List.set_cons_zero, List.set_cons_succ])) | (refine lex_pass rfl (by rfl) (by assumption) ?_; (try simp only [Act.put, List.setIfInBounds_toArray, List.set_cons_zero, List.set_cons_succ])))
          refine lex_end ?_
          refine hR.out _ _ ?_
          clear hR R
          have L1 := q5
          clear q5
          go_upto_region 3 with fail
          obtain ⟨x0, x1⟩ := L1.out.cells (b := w.heap.size) (p := (x, y)) (by simp)
          go_wp2_with fail
          refine (hPa.out _ L1.out.below).mono ?_; rintro e w2 ⟨rfl, hb⟩
          have L2 := L1.out.next hb
          replace L2 := Lib.hid L2
          clear hb x0 x1
          go_wp2_with fail
          refine (hPs.out _ L2.out.below).mono ?_; rintro e w3 ⟨v, rfl, hv, hb⟩
          have L3 := L2.out.next hb
          clear hb
          obtain ⟨_, hv3, _⟩ := hv.resolve_left (fun h => by have h1 := h.1; rw [hP4.out] at h1; exact absurd h1 (by decide))
          obtain ⟨ty, u, rfl⟩ := hv3.iface
          clear hv hv3
          replace L3 := Lib.hid L3
          go_upto_region 4 with fail
          refine worldI (α := fun W' => Code.wp _ _ _ _ W') (Lay2 w sv ((w3.heap.size, (P.1.1, P.1.2)) :: [(w.heap.size, (x, y)), (w.heap.size + 1, (x, y2)), (w.heap.size + 2, (x3, y3))]) .nilIface [] 0) (L3.out.add P.1.1 P.1.2) fun W4 L4 => ?_
          obtain ⟨x0, x1⟩ := L4.cells (b := w.heap.size) (p := (x, y)) (by simp)
          replace L4 := Lib.hid L4
          go_wp2_with fail
          refine (hRx.out _).mono ?_; rintro e w6 ⟨rfl, hb⟩
          have L6 := L4.out.next hb
          clear hb x0 x1
          obtain ⟨x0, x1⟩ := L6.cells (b := w.heap.size) (p := (x, y)) (by simp)
          replace L6 := Lib.hid L6
          go_wp2_with fail
          refine (hRx.out _).mono ?_; rintro e w5 ⟨rfl, hb⟩
          have L5 := L6.out.next hb
          clear hb x0 x1
          replace L5 := Lib.hid L5
          go_upto_region 6 with fail
          refine wp_region_lex [(true, 0), (true, 2), (true, 5), (true, 6), (true, 7), (false, 1), (false, 3), (true, 4), (true, 8), (true, 9), (false, 10), (true, 11), (true, 12)] (fun W : World => (W.cell? ⟨w.heap.size, 0, none⟩ = some (.int .i64 x) ∧ W.cell? ⟨w.heap.size, 1, none⟩ = some (.int .i64 y)) ∧ (W.cell? ⟨(w.heap.size + 1), 0, none⟩ = some (.int .i64 x) ∧ W.cell? ⟨(w.heap.size + 1), 1, none⟩ = some (.int .i64 y2))) (by kernel_rfl) (by kernel_rfl) (fun R hR => ?_)
          have q0 := (L5.out).drew
          have hHeld : (fun W : World => (W.cell? ⟨w.heap.size, 0, none⟩ = some (.int .i64 x) ∧ W.cell? ⟨w.heap.size, 1, none⟩ = some (.int .i64 y)) ∧ (W.cell? ⟨(w.heap.size + 1), 0, none⟩ = some (.int .i64 x) ∧ W.cell? ⟨(w.heap.size + 1), 1, none⟩ = some (.int .i64 y2))) _ := ⟨q0.cells (b := w.heap.size) (p := (x, y)) (by simp), q0.cells (b := (w.heap.size + 1)) (p := (x, y2)) (by simp)⟩
          replace q0 := Lib.hid q0
          repeat (first | (refine lex_take (v := ?_) rfl (by rfl) (by assumption) ?_ ?_; rotate_left 1; (focus (intro w hSw; (try dsimp only at hSw); go_simp; (try with_reducible rfl))); (try simp only [Act.put, List.setIfInBounds_toArray, List.set_cons_zero, List.set_cons_succ])) | (refine lex_pass rfl (by rfl) (by assumption) ?_; (try simp only [Act.put, List.setIfInBounds_toArray, List.set_cons_zero, List.set_cons_succ])))
          (refine lex_call rfl (by rfl) (fun K hq => ?_); go_simp)
          go_at_call 15
          refine (hPa.out _ q0.out.below).mono ?_; rintro e v1 ⟨rfl, hb1⟩
          have q1 := Lay2.next q0.out hb1
          clear hHeld hb1 q0
          have hHeld : (fun W : World => (W.cell? ⟨w.heap.size, 0, none⟩ = some (.int .i64 x) ∧ W.cell? ⟨w.heap.size, 1, none⟩ = some (.int .i64 y)) ∧ (W.cell? ⟨(w.heap.size + 1), 0, none⟩ = some (.int .i64 x) ∧ W.cell? ⟨(w.heap.size + 1), 1, none⟩ = some (.int .i64 y2))) v1 := ⟨q1.cells (b := w.heap.size) (p := (x, y)) (by simp), q1.cells (b := (w.heap.size + 1)) (p := (x, y2)) (by simp)⟩
          replace q1 := Lib.hid q1
          go_wp2_with fail
          (refine hq.out _ _ (fun W : World => (W.cell? ⟨w.heap.size, 0, none⟩ = some (.int .i64 x) ∧ W.cell? ⟨w.heap.size, 1, none⟩ = some (.int .i64 y)) ∧ (W.cell? ⟨(w.heap.size + 1), 0, none⟩ = some (.int .i64 x) ∧ W.cell? ⟨(w.heap.size + 1), 1, none⟩ = some (.int .i64 y2))) (fun _ h => h) hHeld ?_; clear hq K; (try simp only [Act.put, List.setIfInBounds_toArray, List.set_cons_zero, List.set_cons_succ]))
          repeat (first | (refine lex_take (v := ?_) rfl (by rfl) (by assumption) ?_ ?_; rotate_left 1; (focus (intro w hSw; (try dsimp only at hSw); go_simp; (try with_reducible rfl))); (try simp only [Act.put, List.setIfInBounds_toArray, List.set_cons_zero, List.set_cons_succ])) | (refine lex_pass rfl (by rfl) (by assumption) ?_; (try simp only [Act.put, List.setIfInBounds_toArray, List.set_cons_zero, List.set_cons_succ])))
          (refine lex_call rfl (by rfl) (fun K hq => ?_); go_simp)
          go_at_call 15
          refine (hPb.out _ q1.out.below).mono ?_; rintro e v2 ⟨rfl, hb2⟩
          have q2 := Lay2.next q1.out hb2
          clear hHeld hb2 q1
          have hHeld : (fun W : World => (W.cell? ⟨w.heap.size, 0, none⟩ = some (.int .i64 x) ∧ W.cell? ⟨w.heap.size, 1, none⟩ = some (.int .i64 y)) ∧ (W.cell? ⟨(w.heap.size + 1), 0, none⟩ = some (.int .i64 x) ∧ W.cell? ⟨(w.heap.size + 1), 1, none⟩ = some (.int .i64 y2))) v2 := ⟨q2.cells (b := w.heap.size) (p := (x, y)) (by simp), q2.cells (b := (w.heap.size + 1)) (p := (x, y2)) (by simp)⟩
          replace q2 := Lib.hid q2
          go_wp2_with fail
          (refine hq.out _ _ (fun W : World => (W.cell? ⟨w.heap.size, 0, none⟩ = some (.int .i64 x) ∧ W.cell? ⟨w.heap.size, 1, none⟩ = some (.int .i64 y)) ∧ (W.cell? ⟨(w.heap.size + 1), 0, none⟩ = some (.int .i64 x) ∧ W.cell? ⟨(w.heap.size + 1), 1, none⟩ = some (.int .i64 y2))) (fun _ h => h) hHeld ?_; clear hq K; (try simp only [Act.put, List.setIfInBounds_toArray, List.set_cons_zero, List.set_cons_succ]))
          repeat (first | (refine lex_take (v := ?_) rfl (by rfl) (by assumption) ?_ ?_; rotate_left 1; (focus (intro w hSw; (try dsimp only at hSw); go_simp; (try with_reducible rfl))); (try simp only [Act.put, List.setIfInBounds_toArray, List.set_cons_zero, List.set_cons_succ])) | (refine lex_pass rfl (by rfl) (by assumption) ?_; (try simp only [Act.put, List.setIfInBounds_toArray, List.set_cons_zero, List.set_cons_succ])))
          (refine lex_call rfl (by rfl) (fun K hq => ?_); go_simp)
          go_at_call 8
          refine (hAw.out _ q2.out.below).mono ?_; rintro e v3 ⟨rfl, hb3⟩
          have q3 := Lay2.next q2.out hb3
          clear hHeld hb3 q2
          have hHeld : (fun W : World => (W.cell? ⟨w.heap.size, 0, none⟩ = some (.int .i64 x) ∧ W.cell? ⟨w.heap.size, 1, none⟩ = some (.int .i64 y)) ∧ (W.cell? ⟨(w.heap.size + 1), 0, none⟩ = some (.int .i64 x) ∧ W.cell? ⟨(w.heap.size + 1), 1, none⟩ = some (.int .i64 y2))) v3 := ⟨q3.cells (b := w.heap.size) (p := (x, y)) (by simp), q3.cells (b := (w.heap.size + 1)) (p := (x, y2)) (by simp)⟩
          replace q3 := Lib.hid q3
          go_wp2_with fail
          (refine hq.out _ _ (fun W : World => (W.cell? ⟨w.heap.size, 0, none⟩ = some (.int .i64 x) ∧ W.cell? ⟨w.heap.size, 1, none⟩ = some (.int .i64 y)) ∧ (W.cell? ⟨(w.heap.size + 1), 0, none⟩ = some (.int .i64 x) ∧ W.cell? ⟨(w.heap.size + 1), 1, none⟩ = some (.int .i64 y2))) (fun _ h => h) hHeld ?_; clear hq K; (try simp only [Act.put, List.setIfInBounds_toArray, List.set_cons_zero, List.set_cons_succ]))
          repeat (first | (refine lex_take (v := ?_) rfl (by rfl) (by assumption) ?_ ?_; rotate_left 1; (focus (intro w hSw; (try dsimp only at hSw); go_simp; (try with_reducible rfl))); (try simp only [Act.put, List.setIfInBounds_toArray, List.set_cons_zero, List.set_cons_succ])) | (refine lex_pass rfl (by rfl) (by assumption) ?_; (try simp only [Act.put, List.setIfInBounds_toArray, List.set_cons_zero, List.set_cons_succ])))
          refine lex_end ?_
          refine hR.out _ _ ?_
          clear hR R
          go_wp2_with fail
          go_ret
          exact ⟨rfl, q3.out.below⟩
        · have hP4 := hright rfl
          subst hP4
          clear hwrong hright
          replace hRx := Lib.hid hRx
          go_enter Tryz.func4, Tryz.ntmps4
          go_upto_region 1 with fail
          refine wp_region_lex [(true, 0), (true, 1), (true, 2), (true, 3), (true, 4), (false, 5), (true, 6), (true, 7), (true, 8), (true, 9), (false, 10), (true, 11), (true, 12), (true, 13), (true, 14), (true, 15), (true, 16), (false, 17), (true, 18), (true, 19), (true, 20), (false, 21), (true, 22), (true, 23), (true, 24), (true, 25), (true, 26), (false, 27), (true, 28), (true, 29), (true, 30), (false, 31), (true, 32), (true, 33), (true, 34), (true, 35), (false, 36), (true, 37), (true, 38), (true, 39)] (fun W : World => (W.cell? ⟨w.heap.size, 0, none⟩ = some (.int .i64 x) ∧ W.cell? ⟨w.heap.size, 1, none⟩ = some (.int .i64 y)) ∧ (W.cell? ⟨(w.heap.size + 1), 0, none⟩ = some (.int .i64 x) ∧ W.cell? ⟨(w.heap.size + 1), 1, none⟩ = some (.int .i64 y2)) ∧ (W.cell? ⟨(w.heap.size + 2), 0, none⟩ = some (.int .i64 x3) ∧ W.cell? ⟨(w.heap.size + 2), 1, none⟩ = some (.int .i64 y3))) (by kernel_rfl) (by kernel_rfl) (fun R hR => ?_)
          have q0 := (L0.out).drew
          have hHeld : (fun W : World => (W.cell? ⟨w.heap.size, 0, none⟩ = some (.int .i64 x) ∧ W.cell? ⟨w.heap.size, 1, none⟩ = some (.int .i64 y)) ∧ (W.cell? ⟨(w.heap.size + 1), 0, none⟩ = some (.int .i64 x) ∧ W.cell? ⟨(w.heap.size + 1), 1, none⟩ = some (.int .i64 y2)) ∧ (W.cell? ⟨(w.heap.size + 2), 0, none⟩ = some (.int .i64 x3) ∧ W.cell? ⟨(w.heap.size + 2), 1, none⟩ = some (.int .i64 y3))) _ := ⟨q0.cells (b := w.heap.size) (p := (x, y)) (by simp), q0.cells (b := (w.heap.size + 1)) (p := (x, y2)) (by simp), q0.cells (b := (w.heap.size + 2)) (p := (x3, y3)) (by simp)⟩
          replace q0 := Lib.hid q0
          repeat (first | (refine lex_take (v := ?_) rfl (by rfl) (by assumption) ?_ ?_; rotate_left 1; (focus (intro w hSw; (try dsimp only at hSw); go_simp; (try with_reducible rfl))); (try simp only [Act.put, List.setIfInBounds_toArray, List.set_cons_zero, List.set_cons_succ])) | (refine lex_pass rfl (by rfl) (by assumption) ?_; (try simp only [Act.put, List.setIfInBounds_toArray, List.set_cons_zero, List.set_cons_succ])))
          (refine lex_call rfl (by rfl) (fun K hq => ?_); go_simp)
          go_at_call 13
          refine (hAB.out _).mono ?_; rintro e v1 ⟨rfl, hb1⟩
          have q1 := Lay2.next q0.out hb1
          clear hHeld hb1 q0
          have hHeld : (fun W : World => (W.cell? ⟨w.heap.size, 0, none⟩ = some (.int .i64 x) ∧ W.cell? ⟨w.heap.size, 1, none⟩ = some (.int .i64 y)) ∧ (W.cell? ⟨(w.heap.size + 1), 0, none⟩ = some (.int .i64 x) ∧ W.cell? ⟨(w.heap.size + 1), 1, none⟩ = some (.int .i64 y2)) ∧ (W.cell? ⟨(w.heap.size + 2), 0, none⟩ = some (.int .i64 x3) ∧ W.cell? ⟨(w.heap.size + 2), 1, none⟩ = some (.int .i64 y3))) v1 := ⟨q1.cells (b := w.heap.size) (p := (x, y)) (by simp), q1.cells (b := (w.heap.size + 1)) (p := (x, y2)) (by simp), q1.cells (b := (w.heap.size + 2)) (p := (x3, y3)) (by simp)⟩
          replace q1 := Lib.hid q1
          go_wp2_with fail
          (refine hq.out _ _ (fun W : World => (W.cell? ⟨w.heap.size, 0, none⟩ = some (.int .i64 x) ∧ W.cell? ⟨w.heap.size, 1, none⟩ = some (.int .i64 y)) ∧ (W.cell? ⟨(w.heap.size + 1), 0, none⟩ = some (.int .i64 x) ∧ W.cell? ⟨(w.heap.size + 1), 1, none⟩ = some (.int .i64 y2)) ∧ (W.cell? ⟨(w.heap.size + 2), 0, none⟩ = some (.int .i64 x3) ∧ W.cell? ⟨(w.heap.size + 2), 1, none⟩ = some (.int .i64 y3))) (fun _ h => h) hHeld ?_; clear hq K; (try simp only [Act.put, List.setIfInBounds_toArray, List.set_cons_zero, List.set_cons_succ]))
          repeat (first | (refine lex_take (v := ?_) rfl (by rfl) (by assumption) ?_ ?_; rotate_left 1; (focus (intro w hSw; (try dsimp only at hSw); go_simp; (try with_reducible rfl))); (try simp only [Act.put, List.setIfInBounds_toArray, List.set_cons_zero, List.set_cons_succ])) | (refine lex_pass rfl (by rfl) (by assumption) ?_; (try simp only [Act.put, List.setIfInBounds_toArray, List.set_cons_zero, List.set_cons_succ])))
          (refine lex_call rfl (by rfl) (fun K hq => ?_); go_simp)
          go_at_call 13
          refine (hAB.out _).mono ?_; rintro e v2 ⟨rfl, hb2⟩
          have q2 := Lay2.next q1.out hb2
          clear hHeld hb2 q1
          have hHeld : (fun W : World => (W.cell? ⟨w.heap.size, 0, none⟩ = some (.int .i64 x) ∧ W.cell? ⟨w.heap.size, 1, none⟩ = some (.int .i64 y)) ∧ (W.cell? ⟨(w.heap.size + 1), 0, none⟩ = some (.int .i64 x) ∧ W.cell? ⟨(w.heap.size + 1), 1, none⟩ = some (.int .i64 y2)) ∧ (W.cell? ⟨(w.heap.size + 2), 0, none⟩ = some (.int .i64 x3) ∧ W.cell? ⟨(w.heap.size + 2), 1, none⟩ = some (.int .i64 y3))) v2 := ⟨q2.cells (b := w.heap.size) (p := (x, y)) (by simp), q2.cells (b := (w.heap.size + 1)) (p := (x, y2)) (by simp), q2.cells (b := (w.heap.size + 2)) (p := (x3, y3)) (by simp)⟩
          replace q2 := Lib.hid q2
          go_wp2_with fail
          (refine hq.out _ _ (fun W : World => (W.cell? ⟨w.heap.size, 0, none⟩ = some (.int .i64 x) ∧ W.cell? ⟨w.heap.size, 1, none⟩ = some (.int .i64 y)) ∧ (W.cell? ⟨(w.heap.size + 1), 0, none⟩ = some (.int .i64 x) ∧ W.cell? ⟨(w.heap.size + 1), 1, none⟩ = some (.int .i64 y2)) ∧ (W.cell? ⟨(w.heap.size + 2), 0, none⟩ = some (.int .i64 x3) ∧ W.cell? ⟨(w.heap.size + 2), 1, none⟩ = some (.int .i64 y3))) (fun _ h => h) hHeld ?_; clear hq K; (try simp only [Act.put, List.setIfInBounds_toArray, List.set_cons_zero, List.set_cons_succ]))
          repeat (first | (refine lex_take (v := ?_) rfl (by rfl) (by assumption) ?_ ?_; rotate_left 1; (focus (intro w hSw; (try dsimp only at hSw); go_simp; (try with_reducible rfl))); (try simp only [Act.put, List.setIfInBounds_toArray, List.set_cons_zero, List.set_cons_succ])) | (refine lex_pass rfl (by rfl) (by assumption) ?_; (try simp only [Act.put, List.setIfInBounds_toArray, List.set_cons_zero, List.set_cons_succ])))
          (refine lex_call rfl (by rfl) (fun K hq => ?_); go_simp)
          go_at_call 13
          refine (hBA.out _).mono ?_; rintro e v3 ⟨rfl, hb3⟩
          have q3 := Lay2.next q2.out hb3
          clear hHeld hb3 q2
          have hHeld : (fun W : World => (W.cell? ⟨w.heap.size, 0, none⟩ = some (.int .i64 x) ∧ W.cell? ⟨w.heap.size, 1, none⟩ = some (.int .i64 y)) ∧ (W.cell? ⟨(w.heap.size + 1), 0, none⟩ = some (.int .i64 x) ∧ W.cell? ⟨(w.heap.size + 1), 1, none⟩ = some (.int .i64 y2)) ∧ (W.cell? ⟨(w.heap.size + 2), 0, none⟩ = some (.int .i64 x3) ∧ W.cell? ⟨(w.heap.size + 2), 1, none⟩ = some (.int .i64 y3))) v3 := ⟨q3.cells (b := w.heap.size) (p := (x, y)) (by simp), q3.cells (b := (w.heap.size + 1)) (p := (x, y2)) (by simp), q3.cells (b := (w.heap.size + 2)) (p := (x3, y3)) (by simp)⟩
          replace q3 := Lib.hid q3
          go_wp2_with fail
          (refine hq.out _ _ (fun W : World => (W.cell? ⟨w.heap.size, 0, none⟩ = some (.int .i64 x) ∧ W.cell? ⟨w.heap.size, 1, none⟩ = some (.int .i64 y)) ∧ (W.cell? ⟨(w.heap.size + 1), 0, none⟩ = some (.int .i64 x) ∧ W.cell? ⟨(w.heap.size + 1), 1, none⟩ = some (.int .i64 y2)) ∧ (W.cell? ⟨(w.heap.size + 2), 0, none⟩ = some (.int .i64 x3) ∧ W.cell? ⟨(w.heap.size + 2), 1, none⟩ = some (.int .i64 y3))) (fun _ h => h) hHeld ?_; clear hq K; (try simp only [Act.put, List.setIfInBounds_toArray, List.set_cons_zero, List.set_cons_succ]))
          repeat (first | (refine lex_take (v := ?_) rfl (by rfl) (by assumption) ?_ ?_; rotate_left 1; (focus (intro w hSw; (try dsimp only at hSw); go_simp; (try with_reducible rfl))); (try simp only [Act.put, List.setIfInBounds_toArray, List.set_cons_zero, List.set_cons_succ])) | (refine lex_pass rfl (by rfl) (by assumption) ?_; (try simp only [Act.put, List.setIfInBounds_toArray, List.set_cons_zero, List.set_cons_succ])))
          (refine lex_call rfl (by rfl) (fun K hq => ?_); go_simp)
          go_at_call 13
          refine (hAB.out _).mono ?_; rintro e v4 ⟨rfl, hb4⟩
          have q4 := Lay2.next q3.out hb4
          clear hHeld hb4 q3
          have hHeld : (fun W : World => (W.cell? ⟨w.heap.size, 0, none⟩ = some (.int .i64 x) ∧ W.cell? ⟨w.heap.size, 1, none⟩ = some (.int .i64 y)) ∧ (W.cell? ⟨(w.heap.size + 1), 0, none⟩ = some (.int .i64 x) ∧ W.cell? ⟨(w.heap.size + 1), 1, none⟩ = some (.int .i64 y2)) ∧ (W.cell? ⟨(w.heap.size + 2), 0, none⟩ = some (.int .i64 x3) ∧ W.cell? ⟨(w.heap.size + 2), 1, none⟩ = some (.int .i64 y3))) v4 := ⟨q4.cells (b := w.heap.size) (p := (x, y)) (by simp), q4.cells (b := (w.heap.size + 1)) (p := (x, y2)) (by simp), q4.cells (b := (w.heap.size + 2)) (p := (x3, y3)) (by simp)⟩
          replace q4 := Lib.hid q4
          go_wp2_with fail
          (refine hq.out _ _ (fun W : World => (W.cell? ⟨w.heap.size, 0, none⟩ = some (.int .i64 x) ∧ W.cell? ⟨w.heap.size, 1, none⟩ = some (.int .i64 y)) ∧ (W.cell? ⟨(w.heap.size + 1), 0, none⟩ = some (.int .i64 x) ∧ W.cell? ⟨(w.heap.size + 1), 1, none⟩ = some (.int .i64 y2)) ∧ (W.cell? ⟨(w.heap.size + 2), 0, none⟩ = some (.int .i64 x3) ∧ W.cell? ⟨(w.heap.size + 2), 1, none⟩ = some (.int .i64 y3))) (fun _ h => h) hHeld ?_; clear hq K; (try simp only [Act.put, List.setIfInBounds_toArray, List.set_cons_zero, List.set_cons_succ]))
          repeat (first | (refine lex_take (v := ?_) rfl (by rfl) (by assumption) ?_ ?_; rotate_left 1; (focus (intro w hSw; (try dsimp only at hSw); go_simp; (try with_reducible rfl))); (try simp only [Act.put, List.setIfInBounds_toArray, List.set_cons_zero, List.set_cons_succ])) | (refine lex_pass rfl (by rfl) (by assumption) ?_; (try simp only [Act.put, List.setIfInBounds_toArray, List.set_cons_zero, List.set_cons_succ])))
          (refine lex_call rfl (by rfl) (fun K hq => ?_); go_simp)
          go_at_call 13
          refine (hBC.out _).mono ?_; rintro e v5 ⟨rfl, hb5⟩
          have q5 := Lay2.next q4.out hb5
          clear hHeld hb5 q4
          have hHeld : (fun W : World => (W.cell? ⟨w.heap.size, 0, none⟩ = some (.int .i64 x) ∧ W.cell? ⟨w.heap.size, 1, none⟩ = some (.int .i64 y)) ∧ (W.cell? ⟨(w.heap.size + 1), 0, none⟩ = some (.int .i64 x) ∧ W.cell? ⟨(w.heap.size + 1), 1, none⟩ = some (.int .i64 y2)) ∧ (W.cell? ⟨(w.heap.size + 2), 0, none⟩ = some (.int .i64 x3) ∧ W.cell? ⟨(w.heap.size + 2), 1, none⟩ = some (.int .i64 y3))) v5 := ⟨q5.cells (b := w.heap.size) (p := (x, y)) (by simp), q5.cells (b := (w.heap.size + 1)) (p := (x, y2)) (by simp), q5.cells (b := (w.heap.size + 2)) (p := (x3, y3)) (by simp)⟩
          replace q5 := Lib.hid q5
          go_wp2_with fail
          (refine hq.out _ _ (fun W : World => (W.cell? ⟨w.heap.size, 0, none⟩ = some (.int .i64 x) ∧ W.cell? ⟨w.heap.size, 1, none⟩ = some (.int .i64 y)) ∧ (W.cell? ⟨(w.heap.size + 1), 0, none⟩ = some (.int .i64 x) ∧ W.cell? ⟨(w.heap.size + 1), 1, none⟩ = some (.int .i64 y2)) ∧ (W.cell? ⟨(w.heap.size + 2), 0, none⟩ = some (.int .i64 x3) ∧ W.cell? ⟨(w.heap.size + 2), 1, none⟩ = some (.int .i64 y3))) (fun _ h => h) hHeld ?_; clear hq K; (try simp only [Act.put, List.setIfInBounds_toArray, List.set_cons_zero, List.set_cons_succ]))
          repeat (first | (refine lex_take (v := ?_) rfl (by rfl) (by assumption) ?_ ?_; rotate_left 1; (focus (intro w hSw; (try dsimp only at hSw); go_simp; (try with_reducible rfl))); (try simp only [Act.put, List.setIfInBounds_toArray, List.set_cons_zero, List.set_cons_succ])) | (refine lex_pass rfl (by rfl) (by assumption) ?_; (try simp only [Act.put, List.setIfInBounds_toArray, List.set_cons_zero, List.set_cons_succ])))
          refine lex_end ?_
          refine hR.out _ _ ?_
          clear hR R
          have L1 := q5
          clear q5
          go_upto_region 3 with fail
          obtain ⟨x0, x1⟩ := L1.out.cells (b := w.heap.size) (p := (x, y)) (by simp)
          go_wp2_with fail
          refine (hPa.out _ L1.out.below).mono ?_; rintro e w2 ⟨rfl, hb⟩
          have L2 := L1.out.next hb
          replace L2 := Lib.hid L2
          clear hb x0 x1
          go_wp2_with fail
          refine (hPs.out _ L2.out.below).mono ?_; rintro e w3 ⟨v, rfl, hv, hb⟩
          have L3 := L2.out.next hb
          clear hb
          obtain ⟨_, rfl⟩ := hv.resolve_right (fun h => h.1 rfl)
          clear hv
          replace L3 := Lib.hid L3
          go_upto_region 4 with fail
          refine worldI (α := fun W' => Code.wp _ _ _ _ W') (Lay2 w sv ((w3.heap.size, (x, y)) :: [(w.heap.size, (x, y)), (w.heap.size + 1, (x, y2)), (w.heap.size + 2, (x3, y3))]) .nilIface [] 0) (L3.out.add x y) fun W4 L4 => ?_
          obtain ⟨x0, x1⟩ := L4.cells (b := w.heap.size) (p := (x, y)) (by simp)
          replace L4 := Lib.hid L4
          go_wp2_with fail
          refine (hRx.out _).mono ?_; rintro e w6 ⟨rfl, hb⟩
          have L6 := L4.out.next hb
          clear hb x0 x1
          obtain ⟨x0, x1⟩ := L6.cells (b := w.heap.size) (p := (x, y)) (by simp)
          obtain ⟨z0, z1⟩ := L6.cells (b := w3.heap.size) (p := (x, y)) (by simp)
          replace L6 := Lib.hid L6
          go_wp2_with fail
          refine (hRx.out _).mono ?_; rintro e w5 ⟨rfl, hb⟩
          have L5 := L6.out.next hb
          clear hb x0 x1 z0 z1
          replace L5 := Lib.hid L5
          go_upto_region 6 with fail
          refine wp_region_lex [(true, 0), (true, 2), (true, 5), (true, 6), (true, 7), (false, 1), (false, 3), (true, 4), (true, 8), (true, 9), (false, 10), (true, 11), (true, 12)] (fun W : World => (W.cell? ⟨w.heap.size, 0, none⟩ = some (.int .i64 x) ∧ W.cell? ⟨w.heap.size, 1, none⟩ = some (.int .i64 y)) ∧ (W.cell? ⟨(w.heap.size + 1), 0, none⟩ = some (.int .i64 x) ∧ W.cell? ⟨(w.heap.size + 1), 1, none⟩ = some (.int .i64 y2))) (by kernel_rfl) (by kernel_rfl) (fun R hR => ?_)
          have q0 := (L5.out).drew
          have hHeld : (fun W : World => (W.cell? ⟨w.heap.size, 0, none⟩ = some (.int .i64 x) ∧ W.cell? ⟨w.heap.size, 1, none⟩ = some (.int .i64 y)) ∧ (W.cell? ⟨(w.heap.size + 1), 0, none⟩ = some (.int .i64 x) ∧ W.cell? ⟨(w.heap.size + 1), 1, none⟩ = some (.int .i64 y2))) _ := ⟨q0.cells (b := w.heap.size) (p := (x, y)) (by simp), q0.cells (b := (w.heap.size + 1)) (p := (x, y2)) (by simp)⟩
          replace q0 := Lib.hid q0
          repeat (first | (refine lex_take (v := ?_) rfl (by rfl) (by assumption) ?_ ?_; rotate_left 1; (focus (intro w hSw; (try dsimp only at hSw); go_simp; (try with_reducible rfl))); (try simp only [Act.put, List.setIfInBounds_toArray, List.set_cons_zero, List.set_cons_succ])) | (refine lex_pass rfl (by rfl) (by assumption) ?_; (try simp only [Act.put, List.setIfInBounds_toArray, List.set_cons_zero, List.set_cons_succ])))
          (refine lex_call rfl (by rfl) (fun K hq => ?_); go_simp)
          go_at_call 15
          refine (hPa.out _ q0.out.below).mono ?_; rintro e v1 ⟨rfl, hb1⟩
          have q1 := Lay2.next q0.out hb1
          clear hHeld hb1 q0
          have hHeld : (fun W : World => (W.cell? ⟨w.heap.size, 0, none⟩ = some (.int .i64 x) ∧ W.cell? ⟨w.heap.size, 1, none⟩ = some (.int .i64 y)) ∧ (W.cell? ⟨(w.heap.size + 1), 0, none⟩ = some (.int .i64 x) ∧ W.cell? ⟨(w.heap.size + 1), 1, none⟩ = some (.int .i64 y2))) v1 := ⟨q1.cells (b := w.heap.size) (p := (x, y)) (by simp), q1.cells (b := (w.heap.size + 1)) (p := (x, y2)) (by simp)⟩
          replace q1 := Lib.hid q1
          go_wp2_with fail
          (refine hq.out _ _ (fun W : World => (W.cell? ⟨w.heap.size, 0, none⟩ = some (.int .i64 x) ∧ W.cell? ⟨w.heap.size, 1, none⟩ = some (.int .i64 y)) ∧ (W.cell? ⟨(w.heap.size + 1), 0, none⟩ = some (.int .i64 x) ∧ W.cell? ⟨(w.heap.size + 1), 1, none⟩ = some (.int .i64 y2))) (fun _ h => h) hHeld ?_; clear hq K; (try simp only [Act.put, List.setIfInBounds_toArray, List.set_cons_zero, List.set_cons_succ]))
          repeat (first | (refine lex_take (v := ?_) rfl (by rfl) (by assumption) ?_ ?_; rotate_left 1; (focus (intro w hSw; (try dsimp only at hSw); go_simp; (try with_reducible rfl))); (try simp only [Act.put, List.setIfInBounds_toArray, List.set_cons_zero, List.set_cons_succ])) | (refine lex_pass rfl (by rfl) (by assumption) ?_; (try simp only [Act.put, List.setIfInBounds_toArray, List.set_cons_zero, List.set_cons_succ])))
          (refine lex_call rfl (by rfl) (fun K hq => ?_); go_simp)
          go_at_call 15
          refine (hPb.out _ q1.out.below).mono ?_; rintro e v2 ⟨rfl, hb2⟩
          have q2 := Lay2.next q1.out hb2
          clear hHeld hb2 q1
          have hHeld : (fun W : World => (W.cell? ⟨w.heap.size, 0, none⟩ = some (.int .i64 x) ∧ W.cell? ⟨w.heap.size, 1, none⟩ = some (.int .i64 y)) ∧ (W.cell? ⟨(w.heap.size + 1), 0, none⟩ = some (.int .i64 x) ∧ W.cell? ⟨(w.heap.size + 1), 1, none⟩ = some (.int .i64 y2))) v2 := ⟨q2.cells (b := w.heap.size) (p := (x, y)) (by simp), q2.cells (b := (w.heap.size + 1)) (p := (x, y2)) (by simp)⟩
          replace q2 := Lib.hid q2
          go_wp2_with fail
          (refine hq.out _ _ (fun W : World => (W.cell? ⟨w.heap.size, 0, none⟩ = some (.int .i64 x) ∧ W.cell? ⟨w.heap.size, 1, none⟩ = some (.int .i64 y)) ∧ (W.cell? ⟨(w.heap.size + 1), 0, none⟩ = some (.int .i64 x) ∧ W.cell? ⟨(w.heap.size + 1), 1, none⟩ = some (.int .i64 y2))) (fun _ h => h) hHeld ?_; clear hq K; (try simp only [Act.put, List.setIfInBounds_toArray, List.set_cons_zero, List.set_cons_succ]))
          repeat (first | (refine lex_take (v := ?_) rfl (by rfl) (by assumption) ?_ ?_; rotate_left 1; (focus (intro w hSw; (try dsimp only at hSw); go_simp; (try with_reducible rfl))); (try simp only [Act.put, List.setIfInBounds_toArray, List.set_cons_zero, List.set_cons_succ])) | (refine lex_pass rfl (by rfl) (by assumption) ?_; (try simp only [Act.put, List.setIfInBounds_toArray, List.set_cons_zero, List.set_cons_succ])))
          (refine lex_call rfl (by rfl) (fun K hq => ?_); go_simp)
          go_at_call 8
          refine (hAw.out _ q2.out.below).mono ?_; rintro e v3 ⟨rfl, hb3⟩
          have q3 := Lay2.next q2.out hb3
          clear hHeld hb3 q2
          have hHeld : (fun W : World => (W.cell? ⟨w.heap.size, 0, none⟩ = some (.int .i64 x) ∧ W.cell? ⟨w.heap.size, 1, none⟩ = some (.int .i64 y)) ∧ (W.cell? ⟨(w.heap.size + 1), 0, none⟩ = some (.int .i64 x) ∧ W.cell? ⟨(w.heap.size + 1), 1, none⟩ = some (.int .i64 y2))) v3 := ⟨q3.cells (b := w.heap.size) (p := (x, y)) (by simp), q3.cells (b := (w.heap.size + 1)) (p := (x, y2)) (by simp)⟩
          replace q3 := Lib.hid q3
          go_wp2_with fail
          (refine hq.out _ _ (fun W : World => (W.cell? ⟨w.heap.size, 0, none⟩ = some (.int .i64 x) ∧ W.cell? ⟨w.heap.size, 1, none⟩ = some (.int .i64 y)) ∧ (W.cell? ⟨(w.heap.size + 1), 0, none⟩ = some (.int .i64 x) ∧ W.cell? ⟨(w.heap.size + 1), 1, none⟩ = some (.int .i64 y2))) (fun _ h => h) hHeld ?_; clear hq K; (try simp only [Act.put, List.setIfInBounds_toArray, List.set_cons_zero, List.set_cons_succ]))
          repeat (first | (refine lex_take (v := ?_) rfl (by rfl) (by assumption) ?_ ?_; rotate_left 1; (focus (intro w hSw; (try dsimp only at hSw); go_simp; (try with_reducible rfl))); (try simp only [Act.put, List.setIfInBounds_toArray, List.set_cons_zero, List.set_cons_succ])) | (refine lex_pass rfl (by rfl) (by assumption) ?_; (try simp only [Act.put, List.setIfInBounds_toArray, List.set_cons_zero, List.set_cons_succ])))
          refine lex_end ?_
          refine hR.out _ _ ?_
          clear hR R
          go_wp2_with fail
          go_ret
          exact ⟨rfl, q3.out.below⟩
    · have h0 := o2 rfl
      subst h0
      have h1 := o3 rfl rfl
      subst h1
      clear o1 o2 o3
      replace hAB := Lib.hid hAB
      replace hBA := Lib.hid hBA
      replace hBC := Lib.hid hBC
      replace hAC := Lib.hid hAC
      rcases hxy2 with h | ⟨h0, h⟩
      · cases rx
        · have hP4 := Lib.hid (hwrong rfl)
          clear hwrong hright
          replace hRx := Lib.hid hRx
          go_enter Tryz.func4, Tryz.ntmps4
          go_upto_region 1 with fail
          refine wp_region_lex [(true, 0), (true, 1), (true, 2), (true, 3), (true, 4), (false, 5), (true, 6), (true, 7), (true, 8), (true, 9), (false, 10), (true, 11), (true, 12), (true, 13), (true, 14), (true, 15), (true, 16), (false, 17), (true, 18), (true, 19), (true, 20), (false, 21), (true, 22), (true, 23), (true, 24), (true, 25), (true, 26), (false, 27), (true, 28), (true, 29), (true, 30), (false, 31), (true, 32), (true, 33), (true, 34), (true, 35), (false, 36), (true, 37), (true, 38), (true, 39)] (fun W : World => (W.cell? ⟨w.heap.size, 0, none⟩ = some (.int .i64 x) ∧ W.cell? ⟨w.heap.size, 1, none⟩ = some (.int .i64 y)) ∧ (W.cell? ⟨(w.heap.size + 1), 0, none⟩ = some (.int .i64 x2) ∧ W.cell? ⟨(w.heap.size + 1), 1, none⟩ = some (.int .i64 y2)) ∧ (W.cell? ⟨(w.heap.size + 2), 0, none⟩ = some (.int .i64 x3) ∧ W.cell? ⟨(w.heap.size + 2), 1, none⟩ = some (.int .i64 y3))) (by kernel_rfl) (by kernel_rfl) (fun R hR => ?_)
          have q0 := (L0.out).drew
          have hHeld : (fun W : World => (W.cell? ⟨w.heap.size, 0, none⟩ = some (.int .i64 x) ∧ W.cell? ⟨w.heap.size, 1, none⟩ = some (.int .i64 y)) ∧ (W.cell? ⟨(w.heap.size + 1), 0, none⟩ = some (.int .i64 x2) ∧ W.cell? ⟨(w.heap.size + 1), 1, none⟩ = some (.int .i64 y2)) ∧ (W.cell? ⟨(w.heap.size + 2), 0, none⟩ = some (.int .i64 x3) ∧ W.cell? ⟨(w.heap.size + 2), 1, none⟩ = some (.int .i64 y3))) _ := ⟨q0.cells (b := w.heap.size) (p := (x, y)) (by simp), q0.cells (b := (w.heap.size + 1)) (p := (x2, y2)) (by simp), q0.cells (b := (w.heap.size + 2)) (p := (x3, y3)) (by simp)⟩
          replace q0 := Lib.hid q0
          repeat (first | (refine lex_take (v := ?_) rfl (by rfl) (by assumption) ?_ ?_; rotate_left 1; (focus (intro w hSw; (try dsimp only at hSw); go_simp; (try with_reducible rfl))); (try simp only [Act.put, List.setIfInBounds_toArray, List.set_cons_zero, List.set_cons_succ])) | (refine lex_pass rfl (by rfl) (by assumption) ?_; (try simp only [Act.put, List.setIfInBounds_toArray, List.set_cons_zero, List.set_cons_succ])))
          (refine lex_call rfl (by rfl) (fun K hq => ?_); go_simp)
          go_at_call 13
          refine (hAB.out _).mono ?_; rintro e v1 ⟨rfl, hb1⟩
          have q1 := Lay2.next q0.out hb1
          clear hHeld hb1 q0
          have hHeld : (fun W : World => (W.cell? ⟨w.heap.size, 0, none⟩ = some (.int .i64 x) ∧ W.cell? ⟨w.heap.size, 1, none⟩ = some (.int .i64 y)) ∧ (W.cell? ⟨(w.heap.size + 1), 0, none⟩ = some (.int .i64 x2) ∧ W.cell? ⟨(w.heap.size + 1), 1, none⟩ = some (.int .i64 y2)) ∧ (W.cell? ⟨(w.heap.size + 2), 0, none⟩ = some (.int .i64 x3) ∧ W.cell? ⟨(w.heap.size + 2), 1, none⟩ = some (.int .i64 y3))) v1 := ⟨q1.cells (b := w.heap.size) (p := (x, y)) (by simp), q1.cells (b := (w.heap.size + 1)) (p := (x2, y2)) (by simp), q1.cells (b := (w.heap.size + 2)) (p := (x3, y3)) (by simp)⟩
          replace q1 := Lib.hid q1
          go_wp2_with fail
          (refine hq.out _ _ (fun W : World => (W.cell? ⟨w.heap.size, 0, none⟩ = some (.int .i64 x) ∧ W.cell? ⟨w.heap.size, 1, none⟩ = some (.int .i64 y)) ∧ (W.cell? ⟨(w.heap.size + 1), 0, none⟩ = some (.int .i64 x2) ∧ W.cell? ⟨(w.heap.size + 1), 1, none⟩ = some (.int .i64 y2)) ∧ (W.cell? ⟨(w.heap.size + 2), 0, none⟩ = some (.int .i64 x3) ∧ W.cell? ⟨(w.heap.size + 2), 1, none⟩ = some (.int .i64 y3))) (fun _ h => h) hHeld ?_; clear hq K; (try simp only [Act.put, List.setIfInBounds_toArray, List.set_cons_zero, List.set_cons_succ]))
          repeat (first | (refine lex_take (v := ?_) rfl (by rfl) (by assumption) ?_ ?_; rotate_left 1; (focus (intro w hSw; (try dsimp only at hSw); go_simp; (try with_reducible rfl))); (try simp only [Act.put, List.setIfInBounds_toArray, List.set_cons_zero, List.set_cons_succ])) | (refine lex_pass rfl (by rfl) (by assumption) ?_; (try simp only [Act.put, List.setIfInBounds_toArray, List.set_cons_zero, List.set_cons_succ])))
          (refine lex_call rfl (by rfl) (fun K hq => ?_); go_simp)
          go_at_call 13
          refine (hAB.out _).mono ?_; rintro e v2 ⟨rfl, hb2⟩
          have q2 := Lay2.next q1.out hb2
          clear hHeld hb2 q1
          have hHeld : (fun W : World => (W.cell? ⟨w.heap.size, 0, none⟩ = some (.int .i64 x) ∧ W.cell? ⟨w.heap.size, 1, none⟩ = some (.int .i64 y)) ∧ (W.cell? ⟨(w.heap.size + 1), 0, none⟩ = some (.int .i64 x2) ∧ W.cell? ⟨(w.heap.size + 1), 1, none⟩ = some (.int .i64 y2)) ∧ (W.cell? ⟨(w.heap.size + 2), 0, none⟩ = some (.int .i64 x3) ∧ W.cell? ⟨(w.heap.size + 2), 1, none⟩ = some (.int .i64 y3))) v2 := ⟨q2.cells (b := w.heap.size) (p := (x, y)) (by simp), q2.cells (b := (w.heap.size + 1)) (p := (x2, y2)) (by simp), q2.cells (b := (w.heap.size + 2)) (p := (x3, y3)) (by simp)⟩
          replace q2 := Lib.hid q2
          go_wp2_with fail
          (refine hq.out _ _ (fun W : World => (W.cell? ⟨w.heap.size, 0, none⟩ = some (.int .i64 x) ∧ W.cell? ⟨w.heap.size, 1, none⟩ = some (.int .i64 y)) ∧ (W.cell? ⟨(w.heap.size + 1), 0, none⟩ = some (.int .i64 x2) ∧ W.cell? ⟨(w.heap.size + 1), 1, none⟩ = some (.int .i64 y2)) ∧ (W.cell? ⟨(w.heap.size + 2), 0, none⟩ = some (.int .i64 x3) ∧ W.cell? ⟨(w.heap.size + 2), 1, none⟩ = some (.int .i64 y3))) (fun _ h => h) hHeld ?_; clear hq K; (try simp only [Act.put, List.setIfInBounds_toArray, List.set_cons_zero, List.set_cons_succ]))
          repeat (first | (refine lex_take (v := ?_) rfl (by rfl) (by assumption) ?_ ?_; rotate_left 1; (focus (intro w hSw; (try dsimp only at hSw); go_simp; (try with_reducible rfl))); (try simp only [Act.put, List.setIfInBounds_toArray, List.set_cons_zero, List.set_cons_succ])) | (refine lex_pass rfl (by rfl) (by assumption) ?_; (try simp only [Act.put, List.setIfInBounds_toArray, List.set_cons_zero, List.set_cons_succ])))
          (refine lex_call rfl (by rfl) (fun K hq => ?_); go_simp)
          go_at_call 13
          refine (hBA.out _).mono ?_; rintro e v3 ⟨rfl, hb3⟩
          have q3 := Lay2.next q2.out hb3
          clear hHeld hb3 q2
          have hHeld : (fun W : World => (W.cell? ⟨w.heap.size, 0, none⟩ = some (.int .i64 x) ∧ W.cell? ⟨w.heap.size, 1, none⟩ = some (.int .i64 y)) ∧ (W.cell? ⟨(w.heap.size + 1), 0, none⟩ = some (.int .i64 x2) ∧ W.cell? ⟨(w.heap.size + 1), 1, none⟩ = some (.int .i64 y2)) ∧ (W.cell? ⟨(w.heap.size + 2), 0, none⟩ = some (.int .i64 x3) ∧ W.cell? ⟨(w.heap.size + 2), 1, none⟩ = some (.int .i64 y3))) v3 := ⟨q3.cells (b := w.heap.size) (p := (x, y)) (by simp), q3.cells (b := (w.heap.size + 1)) (p := (x2, y2)) (by simp), q3.cells (b := (w.heap.size + 2)) (p := (x3, y3)) (by simp)⟩
          replace q3 := Lib.hid q3
          go_wp2_with fail
          (refine hq.out _ _ (fun W : World => (W.cell? ⟨w.heap.size, 0, none⟩ = some (.int .i64 x) ∧ W.cell? ⟨w.heap.size, 1, none⟩ = some (.int .i64 y)) ∧ (W.cell? ⟨(w.heap.size + 1), 0, none⟩ = some (.int .i64 x2) ∧ W.cell? ⟨(w.heap.size + 1), 1, none⟩ = some (.int .i64 y2)) ∧ (W.cell? ⟨(w.heap.size + 2), 0, none⟩ = some (.int .i64 x3) ∧ W.cell? ⟨(w.heap.size + 2), 1, none⟩ = some (.int .i64 y3))) (fun _ h => h) hHeld ?_; clear hq K; (try simp only [Act.put, List.setIfInBounds_toArray, List.set_cons_zero, List.set_cons_succ]))
          repeat (first | (refine lex_take (v := ?_) rfl (by rfl) (by assumption) ?_ ?_; rotate_left 1; (focus (intro w hSw; (try dsimp only at hSw); go_simp; (try with_reducible rfl))); (try simp only [Act.put, List.setIfInBounds_toArray, List.set_cons_zero, List.set_cons_succ])) | (refine lex_pass rfl (by rfl) (by assumption) ?_; (try simp only [Act.put, List.setIfInBounds_toArray, List.set_cons_zero, List.set_cons_succ])))
          (refine lex_call rfl (by rfl) (fun K hq => ?_); go_simp)
          go_at_call 13
          refine (hAB.out _).mono ?_; rintro e v4 ⟨rfl, hb4⟩
          have q4 := Lay2.next q3.out hb4
          clear hHeld hb4 q3
          have hHeld : (fun W : World => (W.cell? ⟨w.heap.size, 0, none⟩ = some (.int .i64 x) ∧ W.cell? ⟨w.heap.size, 1, none⟩ = some (.int .i64 y)) ∧ (W.cell? ⟨(w.heap.size + 1), 0, none⟩ = some (.int .i64 x2) ∧ W.cell? ⟨(w.heap.size + 1), 1, none⟩ = some (.int .i64 y2)) ∧ (W.cell? ⟨(w.heap.size + 2), 0, none⟩ = some (.int .i64 x3) ∧ W.cell? ⟨(w.heap.size + 2), 1, none⟩ = some (.int .i64 y3))) v4 := ⟨q4.cells (b := w.heap.size) (p := (x, y)) (by simp), q4.cells (b := (w.heap.size + 1)) (p := (x2, y2)) (by simp), q4.cells (b := (w.heap.size + 2)) (p := (x3, y3)) (by simp)⟩
          replace q4 := Lib.hid q4
          go_wp2_with fail
          (refine hq.out _ _ (fun W : World => (W.cell? ⟨w.heap.size, 0, none⟩ = some (.int .i64 x) ∧ W.cell? ⟨w.heap.size, 1, none⟩ = some (.int .i64 y)) ∧ (W.cell? ⟨(w.heap.size + 1), 0, none⟩ = some (.int .i64 x2) ∧ W.cell? ⟨(w.heap.size + 1), 1, none⟩ = some (.int .i64 y2)) ∧ (W.cell? ⟨(w.heap.size + 2), 0, none⟩ = some (.int .i64 x3) ∧ W.cell? ⟨(w.heap.size + 2), 1, none⟩ = some (.int .i64 y3))) (fun _ h => h) hHeld ?_; clear hq K; (try simp only [Act.put, List.setIfInBounds_toArray, List.set_cons_zero, List.set_cons_succ]))
          repeat (first | (refine lex_take (v := ?_) rfl (by rfl) (by assumption) ?_ ?_; rotate_left 1; (focus (intro w hSw; (try dsimp only at hSw); go_simp; (try with_reducible rfl))); (try simp only [Act.put, List.setIfInBounds_toArray, List.set_cons_zero, List.set_cons_succ])) | (refine lex_pass rfl (by rfl) (by assumption) ?_; (try simp only [Act.put, List.setIfInBounds_toArray, List.set_cons_zero, List.set_cons_succ])))
          (refine lex_call rfl (by rfl) (fun K hq => ?_); go_simp)
          go_at_call 13
          refine (hBC.out _).mono ?_; rintro e v5 ⟨rfl, hb5⟩
          have q5 := Lay2.next q4.out hb5
          clear hHeld hb5 q4
          have hHeld : (fun W : World => (W.cell? ⟨w.heap.size, 0, none⟩ = some (.int .i64 x) ∧ W.cell? ⟨w.heap.size, 1, none⟩ = some (.int .i64 y)) ∧ (W.cell? ⟨(w.heap.size + 1), 0, none⟩ = some (.int .i64 x2) ∧ W.cell? ⟨(w.heap.size + 1), 1, none⟩ = some (.int .i64 y2)) ∧ (W.cell? ⟨(w.heap.size + 2), 0, none⟩ = some (.int .i64 x3) ∧ W.cell? ⟨(w.heap.size + 2), 1, none⟩ = some (.int .i64 y3))) v5 := ⟨q5.cells (b := w.heap.size) (p := (x, y)) (by simp), q5.cells (b := (w.heap.size + 1)) (p := (x2, y2)) (by simp), q5.cells (b := (w.heap.size + 2)) (p := (x3, y3)) (by simp)⟩
          replace q5 := Lib.hid q5
          go_wp2_with fail
          (refine hq.out _ _ (fun W : World => (W.cell? ⟨w.heap.size, 0, none⟩ = some (.int .i64 x) ∧ W.cell? ⟨w.heap.size, 1, none⟩ = some (.int .i64 y)) ∧ (W.cell? ⟨(w.heap.size + 1), 0, none⟩ = some (.int .i64 x2) ∧ W.cell? ⟨(w.heap.size + 1), 1, none⟩ = some (.int .i64 y2)) ∧ (W.cell? ⟨(w.heap.size + 2), 0, none⟩ = some (.int .i64 x3) ∧ W.cell? ⟨(w.heap.size + 2), 1, none⟩ = some (.int .i64 y3))) (fun _ h => h) hHeld ?_; clear hq K; (try simp only [Act.put, List.setIfInBounds_toArray, List.set_cons_zero, List.set_cons_succ]))
          repeat (first | (refine lex_take (v := ?_) rfl (by rfl) (by assumption) ?_ ?_; rotate_left 1; (focus (intro w hSw; (try dsimp only at hSw); go_simp; (try with_reducible rfl))); (try simp only [Act.put, List.setIfInBounds_toArray, List.set_cons_zero, List.set_cons_succ])) | (refine lex_pass rfl (by rfl) (by assumption) ?_; (try simp only [Act.put, List.setIfInBounds_toArray, List.set_cons_zero, List.set_cons_succ])))
          (refine lex_call rfl (by rfl) (fun K hq => ?_); go_simp)
          go_at_call 13
          refine (hAC.out _).mono ?_; rintro e v6 ⟨rfl, hb6⟩
          have q6 := Lay2.next q5.out hb6
          clear hHeld hb6 q5
          have hHeld : (fun W : World => (W.cell? ⟨w.heap.size, 0, none⟩ = some (.int .i64 x) ∧ W.cell? ⟨w.heap.size, 1, none⟩ = some (.int .i64 y)) ∧ (W.cell? ⟨(w.heap.size + 1), 0, none⟩ = some (.int .i64 x2) ∧ W.cell? ⟨(w.heap.size + 1), 1, none⟩ = some (.int .i64 y2)) ∧ (W.cell? ⟨(w.heap.size + 2), 0, none⟩ = some (.int .i64 x3) ∧ W.cell? ⟨(w.heap.size + 2), 1, none⟩ = some (.int .i64 y3))) v6 := ⟨q6.cells (b := w.heap.size) (p := (x, y)) (by simp), q6.cells (b := (w.heap.size + 1)) (p := (x2, y2)) (by simp), q6.cells (b := (w.heap.size + 2)) (p := (x3, y3)) (by simp)⟩
          replace q6 := Lib.hid q6
          go_wp2_with fail
          (refine hq.out _ _ (fun W : World => (W.cell? ⟨w.heap.size, 0, none⟩ = some (.int .i64 x) ∧ W.cell? ⟨w.heap.size, 1, none⟩ = some (.int .i64 y)) ∧ (W.cell? ⟨(w.heap.size + 1), 0, none⟩ = some (.int .i64 x2) ∧ W.cell? ⟨(w.heap.size + 1), 1, none⟩ = some (.int .i64 y2)) ∧ (W.cell? ⟨(w.heap.size + 2), 0, none⟩ = some (.int .i64 x3) ∧ W.cell? ⟨(w.heap.size + 2), 1, none⟩ = some (.int .i64 y3))) (fun _ h => h) hHeld ?_; clear hq K; (try simp only [Act.put, List.setIfInBounds_toArray, List.set_cons_zero, List.set_cons_succ]))
          repeat (first | (refine lex_take (v := ?_) rfl (by rfl) (by assumption) ?_ ?_; rotate_left 1; (focus (intro w hSw; (try dsimp only at hSw); go_simp; (try with_reducible rfl))); (try simp only [Act.put, List.setIfInBounds_toArray, List.set_cons_zero, List.set_cons_succ])) | (refine lex_pass rfl (by rfl) (by assumption) ?_; (try simp only [Act.put, List.setIfInBounds_toArray, List.set_cons_zero, List.set_cons_succ])))
          refine lex_end ?_
          refine hR.out _ _ ?_
          clear hR R
          have L1 := q6
          clear q6
          go_upto_region 3 with fail
          obtain ⟨x0, x1⟩ := L1.out.cells (b := w.heap.size) (p := (x, y)) (by simp)
          go_wp2_with fail
          refine (hPa.out _ L1.out.below).mono ?_; rintro e w2 ⟨rfl, hb⟩
          have L2 := L1.out.next hb
          replace L2 := Lib.hid L2
          clear hb x0 x1
          go_wp2_with fail
          refine (hPs.out _ L2.out.below).mono ?_; rintro e w3 ⟨v, rfl, hv, hb⟩
          have L3 := L2.out.next hb
          clear hb
          obtain ⟨_, hv3, _⟩ := hv.resolve_left (fun h => by have h1 := h.1; rw [hP4.out] at h1; exact absurd h1 (by decide))
          obtain ⟨ty, u, rfl⟩ := hv3.iface
          clear hv hv3
          replace L3 := Lib.hid L3
          go_upto_region 4 with fail
          refine worldI (α := fun W' => Code.wp _ _ _ _ W') (Lay2 w sv ((w3.heap.size, (P.1.1, P.1.2)) :: [(w.heap.size, (x, y)), (w.heap.size + 1, (x2, y2)), (w.heap.size + 2, (x3, y3))]) .nilIface [] 0) (L3.out.add P.1.1 P.1.2) fun W4 L4 => ?_
          obtain ⟨x0, x1⟩ := L4.cells (b := w.heap.size) (p := (x, y)) (by simp)
          replace L4 := Lib.hid L4
          go_wp2_with fail
          refine (hRx.out _).mono ?_; rintro e w6 ⟨rfl, hb⟩
          have L6 := L4.out.next hb
          clear hb x0 x1
          obtain ⟨x0, x1⟩ := L6.cells (b := w.heap.size) (p := (x, y)) (by simp)
          replace L6 := Lib.hid L6
          go_wp2_with fail
          refine (hRx.out _).mono ?_; rintro e w5 ⟨rfl, hb⟩
          have L5 := L6.out.next hb
          clear hb x0 x1
          replace L5 := Lib.hid L5
          go_upto_region 6 with fail
          refine wp_region_lex [(true, 0), (true, 2), (true, 5), (true, 6), (true, 7), (false, 1), (false, 3), (true, 4), (true, 8), (true, 9), (false, 10), (true, 11), (true, 12)] (fun W : World => (W.cell? ⟨w.heap.size, 0, none⟩ = some (.int .i64 x) ∧ W.cell? ⟨w.heap.size, 1, none⟩ = some (.int .i64 y)) ∧ (W.cell? ⟨(w.heap.size + 1), 0, none⟩ = some (.int .i64 x2) ∧ W.cell? ⟨(w.heap.size + 1), 1, none⟩ = some (.int .i64 y2))) (by kernel_rfl) (by kernel_rfl) (fun R hR => ?_)
          have q0 := (L5.out).drew
          have hHeld : (fun W : World => (W.cell? ⟨w.heap.size, 0, none⟩ = some (.int .i64 x) ∧ W.cell? ⟨w.heap.size, 1, none⟩ = some (.int .i64 y)) ∧ (W.cell? ⟨(w.heap.size + 1), 0, none⟩ = some (.int .i64 x2) ∧ W.cell? ⟨(w.heap.size + 1), 1, none⟩ = some (.int .i64 y2))) _ := ⟨q0.cells (b := w.heap.size) (p := (x, y)) (by simp), q0.cells (b := (w.heap.size + 1)) (p := (x2, y2)) (by simp)⟩
          replace q0 := Lib.hid q0
          repeat (first | (refine lex_take (v := ?_) rfl (by rfl) (by assumption) ?_ ?_; rotate_left 1; (focus (intro w hSw; (try dsimp only at hSw); go_simp; (try with_reducible rfl))); (try simp only [Act.put, List.setIfInBounds_toArray, List.set_cons_zero, List.set_cons_succ])) | (refine lex_pass rfl (by rfl) (by assumption) ?_; (try simp only [Act.put, List.setIfInBounds_toArray, List.set_cons_zero, List.set_cons_succ])))
          (refine lex_call rfl (by rfl) (fun K hq => ?_); go_simp)
          go_at_call 15
          refine (hPa.out _ q0.out.below).mono ?_; rintro e v1 ⟨rfl, hb1⟩
          have q1 := Lay2.next q0.out hb1
          clear hHeld hb1 q0
          have hHeld : (fun W : World => (W.cell? ⟨w.heap.size, 0, none⟩ = some (.int .i64 x) ∧ W.cell? ⟨w.heap.size, 1, none⟩ = some (.int .i64 y)) ∧ (W.cell? ⟨(w.heap.size + 1), 0, none⟩ = some (.int .i64 x2) ∧ W.cell? ⟨(w.heap.size + 1), 1, none⟩ = some (.int .i64 y2))) v1 := ⟨q1.cells (b := w.heap.size) (p := (x, y)) (by simp), q1.cells (b := (w.heap.size + 1)) (p := (x2, y2)) (by simp)⟩
          replace q1 := Lib.hid q1
          go_wp2_with fail
          (refine hq.out _ _ (fun W : World => (W.cell? ⟨w.heap.size, 0, none⟩ = some (.int .i64 x) ∧ W.cell? ⟨w.heap.size, 1, none⟩ = some (.int .i64 y)) ∧ (W.cell? ⟨(w.heap.size + 1), 0, none⟩ = some (.int .i64 x2) ∧ W.cell? ⟨(w.heap.size + 1), 1, none⟩ = some (.int .i64 y2))) (fun _ h => h) hHeld ?_; clear hq K; (try simp only [Act.put, List.setIfInBounds_toArray, List.set_cons_zero, List.set_cons_succ]))
          repeat (first | (refine lex_take (v := ?_) rfl (by rfl) (by assumption) ?_ ?_; rotate_left 1; (focus (intro w hSw; (try dsimp only at hSw); go_simp; (try with_reducible rfl))); (try simp only [Act.put, List.setIfInBounds_toArray, List.set_cons_zero, List.set_cons_succ])) | (refine lex_pass rfl (by rfl) (by assumption) ?_; (try simp only [Act.put, List.setIfInBounds_toArray, List.set_cons_zero, List.set_cons_succ])))
          (refine lex_call rfl (by rfl) (fun K hq => ?_); go_simp)
          go_at_call 15
          refine (hPb.out _ q1.out.below).mono ?_; rintro e v2 ⟨rfl, hb2⟩
          have q2 := Lay2.next q1.out hb2
          clear hHeld hb2 q1
          have hHeld : (fun W : World => (W.cell? ⟨w.heap.size, 0, none⟩ = some (.int .i64 x) ∧ W.cell? ⟨w.heap.size, 1, none⟩ = some (.int .i64 y)) ∧ (W.cell? ⟨(w.heap.size + 1), 0, none⟩ = some (.int .i64 x2) ∧ W.cell? ⟨(w.heap.size + 1), 1, none⟩ = some (.int .i64 y2))) v2 := ⟨q2.cells (b := w.heap.size) (p := (x, y)) (by simp), q2.cells (b := (w.heap.size + 1)) (p := (x2, y2)) (by simp)⟩
          replace q2 := Lib.hid q2
          go_wp2_with fail
          (refine hq.out _ _ (fun W : World => (W.cell? ⟨w.heap.size, 0, none⟩ = some (.int .i64 x) ∧ W.cell? ⟨w.heap.size, 1, none⟩ = some (.int .i64 y)) ∧ (W.cell? ⟨(w.heap.size + 1), 0, none⟩ = some (.int .i64 x2) ∧ W.cell? ⟨(w.heap.size + 1), 1, none⟩ = some (.int .i64 y2))) (fun _ h => h) hHeld ?_; clear hq K; (try simp only [Act.put, List.setIfInBounds_toArray, List.set_cons_zero, List.set_cons_succ]))
          repeat (first | (refine lex_take (v := ?_) rfl (by rfl) (by assumption) ?_ ?_; rotate_left 1; (focus (intro w hSw; (try dsimp only at hSw); go_simp; (try with_reducible rfl))); (try simp only [Act.put, List.setIfInBounds_toArray, List.set_cons_zero, List.set_cons_succ])) | (refine lex_pass rfl (by rfl) (by assumption) ?_; (try simp only [Act.put, List.setIfInBounds_toArray, List.set_cons_zero, List.set_cons_succ])))
          (refine lex_call rfl (by rfl) (fun K hq => ?_); go_simp)
          go_at_call 8
          refine (hAw.out _ q2.out.below).mono ?_; rintro e v3 ⟨rfl, hb3⟩
          have q3 := Lay2.next q2.out hb3
          clear hHeld hb3 q2
          have hHeld : (fun W : World => (W.cell? ⟨w.heap.size, 0, none⟩ = some (.int .i64 x) ∧ W.cell? ⟨w.heap.size, 1, none⟩ = some (.int .i64 y)) ∧ (W.cell? ⟨(w.heap.size + 1), 0, none⟩ = some (.int .i64 x2) ∧ W.cell? ⟨(w.heap.size + 1), 1, none⟩ = some (.int .i64 y2))) v3 := ⟨q3.cells (b := w.heap.size) (p := (x, y)) (by simp), q3.cells (b := (w.heap.size + 1)) (p := (x2, y2)) (by simp)⟩
          replace q3 := Lib.hid q3
          go_wp2_with fail
          (refine hq.out _ _ (fun W : World => (W.cell? ⟨w.heap.size, 0, none⟩ = some (.int .i64 x) ∧ W.cell? ⟨w.heap.size, 1, none⟩ = some (.int .i64 y)) ∧ (W.cell? ⟨(w.heap.size + 1), 0, none⟩ = some (.int .i64 x2) ∧ W.cell? ⟨(w.heap.size + 1), 1, none⟩ = some (.int .i64 y2))) (fun _ h => h) hHeld ?_; clear hq K; (try simp only [Act.put, List.setIfInBounds_toArray, List.set_cons_zero, List.set_cons_succ]))
          repeat (first | (refine lex_take (v := ?_) rfl (by rfl) (by assumption) ?_ ?_; rotate_left 1; (focus (intro w hSw; (try dsimp only at hSw); go_simp; (try with_reducible rfl))); (try simp only [Act.put, List.setIfInBounds_toArray, List.set_cons_zero, List.set_cons_succ])) | (refine lex_pass rfl (by rfl) (by assumption) ?_; (try simp only [Act.put, List.setIfInBounds_toArray, List.set_cons_zero, List.set_cons_succ])))
          refine lex_end ?_
          refine hR.out _ _ ?_
          clear hR R
          go_wp2_with fail
          go_ret
          exact ⟨rfl, q3.out.below⟩
        · have hP4 := hright rfl
          subst hP4
          clear hwrong hright
          replace hRx := Lib.hid hRx
          go_enter Tryz.func4, Tryz.ntmps4
          go_upto_region 1 with fail
          refine wp_region_lex [(true, 0), (true, 1), (true, 2), (true, 3), (true, 4), (false, 5), (true, 6), (true, 7), (true, 8), (true, 9), (false, 10), (true, 11), (true, 12), (true, 13), (true, 14), (true, 15), (true, 16), (false, 17), (true, 18), (true, 19), (true, 20), (false, 21), (true, 22), (true, 23), (true, 24), (true, 25), (true, 26), (false, 27), (true, 28), (true, 29), (true, 30), (false, 31), (true, 32), (true, 33), (true, 34), (true, 35), (false, 36), (true, 37), (true, 38), (true, 39)] (fun W : World => (W.cell? ⟨w.heap.size, 0, none⟩ = some (.int .i64 x) ∧ W.cell? ⟨w.heap.size, 1, none⟩ = some (.int .i64 y)) ∧ (W.cell? ⟨(w.heap.size + 1), 0, none⟩ = some (.int .i64 x2) ∧ W.cell? ⟨(w.heap.size + 1), 1, none⟩ = some (.int .i64 y2)) ∧ (W.cell? ⟨(w.heap.size + 2), 0, none⟩ = some (.int .i64 x3) ∧ W.cell? ⟨(w.heap.size + 2), 1, none⟩ = some (.int .i64 y3))) (by kernel_rfl) (by kernel_rfl) (fun R hR => ?_)
          have q0 := (L0.out).drew
          have hHeld : (fun W : World => (W.cell? ⟨w.heap.size, 0, none⟩ = some (.int .i64 x) ∧ W.cell? ⟨w.heap.size, 1, none⟩ = some (.int .i64 y)) ∧ (W.cell? ⟨(w.heap.size + 1), 0, none⟩ = some (.int .i64 x2) ∧ W.cell? ⟨(w.heap.size + 1), 1, none⟩ = some (.int .i64 y2)) ∧ (W.cell? ⟨(w.heap.size + 2), 0, none⟩ = some (.int .i64 x3) ∧ W.cell? ⟨(w.heap.size + 2), 1, none⟩ = some (.int .i64 y3))) _ := ⟨q0.cells (b := w.heap.size) (p := (x, y)) (by simp), q0.cells (b := (w.heap.size + 1)) (p := (x2, y2)) (by simp), q0.cells (b := (w.heap.size + 2)) (p := (x3, y3)) (by simp)⟩
          replace q0 := Lib.hid q0
          repeat (first | (refine lex_take (v := ?_) rfl (by rfl) (by assumption) ?_ ?_; rotate_left 1; (focus (intro w hSw; (try dsimp only at hSw); go_simp; (try with_reducible rfl))); (try simp only [Act.put, List.setIfInBounds_toArray, List.set_cons_zero, List.set_cons_succ])) | (refine lex_pass rfl (by rfl) (by assumption) ?_; (try simp only [Act.put, List.setIfInBounds_toArray, List.set_cons_zero, List.set_cons_succ])))
          (refine lex_call rfl (by rfl) (fun K hq => ?_); go_simp)
          go_at_call 13
          refine (hAB.out _).mono ?_; rintro e v1 ⟨rfl, hb1⟩
          have q1 := Lay2.next q0.out hb1
          clear hHeld hb1 q0
          have hHeld : (fun W : World => (W.cell? ⟨w.heap.size, 0, none⟩ = some (.int .i64 x) ∧ W.cell? ⟨w.heap.size, 1, none⟩ = some (.int .i64 y)) ∧ (W.cell? ⟨(w.heap.size + 1), 0, none⟩ = some (.int .i64 x2) ∧ W.cell? ⟨(w.heap.size + 1), 1, none⟩ = some (.int .i64 y2)) ∧ (W.cell? ⟨(w.heap.size + 2), 0, none⟩ = some (.int .i64 x3) ∧ W.cell? ⟨(w.heap.size + 2), 1, none⟩ = some (.int .i64 y3))) v1 := ⟨q1.cells (b := w.heap.size) (p := (x, y)) (by simp), q1.cells (b := (w.heap.size + 1)) (p := (x2, y2)) (by simp), q1.cells (b := (w.heap.size + 2)) (p := (x3, y3)) (by simp)⟩
          replace q1 := Lib.hid q1
          go_wp2_with fail
          (refine hq.out _ _ (fun W : World => (W.cell? ⟨w.heap.size, 0, none⟩ = some (.int .i64 x) ∧ W.cell? ⟨w.heap.size, 1, none⟩ = some (.int .i64 y)) ∧ (W.cell? ⟨(w.heap.size + 1), 0, none⟩ = some (.int .i64 x2) ∧ W.cell? ⟨(w.heap.size + 1), 1, none⟩ = some (.int .i64 y2)) ∧ (W.cell? ⟨(w.heap.size + 2), 0, none⟩ = some (.int .i64 x3) ∧ W.cell? ⟨(w.heap.size + 2), 1, none⟩ = some (.int .i64 y3))) (fun _ h => h) hHeld ?_; clear hq K; (try simp only [Act.put, List.setIfInBounds_toArray, List.set_cons_zero, List.set_cons_succ]))
          repeat (first | (refine lex_take (v := ?_) rfl (by rfl) (by assumption) ?_ ?_; rotate_left 1; (focus (intro w hSw; (try dsimp only at hSw); go_simp; (try with_reducible rfl))); (try simp only [Act.put, List.setIfInBounds_toArray, List.set_cons_zero, List.set_cons_succ])) | (refine lex_pass rfl (by rfl) (by assumption) ?_; (try simp only [Act.put, List.setIfInBounds_toArray, List.set_cons_zero, List.set_cons_succ])))
          (refine lex_call rfl (by rfl) (fun K hq => ?_); go_simp)
          go_at_call 13
          refine (hAB.out _).mono ?_; rintro e v2 ⟨rfl, hb2⟩
          have q2 := Lay2.next q1.out hb2
          clear hHeld hb2 q1
          have hHeld : (fun W : World => (W.cell? ⟨w.heap.size, 0, none⟩ = some (.int .i64 x) ∧ W.cell? ⟨w.heap.size, 1, none⟩ = some (.int .i64 y)) ∧ (W.cell? ⟨(w.heap.size + 1), 0, none⟩ = some (.int .i64 x2) ∧ W.cell? ⟨(w.heap.size + 1), 1, none⟩ = some (.int .i64 y2)) ∧ (W.cell? ⟨(w.heap.size + 2), 0, none⟩ = some (.int .i64 x3) ∧ W.cell? ⟨(w.heap.size + 2), 1, none⟩ = some (.int .i64 y3))) v2 := ⟨q2.cells (b := w.heap.size) (p := (x, y)) (by simp), q2.cells (b := (w.heap.size + 1)) (p := (x2, y2)) (by simp), q2.cells (b := (w.heap.size + 2)) (p := (x3, y3)) (by simp)⟩
          replace q2 := Lib.hid q2
          go_wp2_with fail
          (refine hq.out _ _ (fun W : World => (W.cell? ⟨w.heap.size, 0, none⟩ = some (.int .i64 x) ∧ W.cell? ⟨w.heap.size, 1, none⟩ = some (.int .i64 y)) ∧ (W.cell? ⟨(w.heap.size + 1), 0, none⟩ = some (.int .i64 x2) ∧ W.cell? ⟨(w.heap.size + 1), 1, none⟩ = some (.int .i64 y2)) ∧ (W.cell? ⟨(w.heap.size + 2), 0, none⟩ = some (.int .i64 x3) ∧ W.cell? ⟨(w.heap.size + 2), 1, none⟩ = some (.int .i64 y3))) (fun _ h => h) hHeld ?_; clear hq K; (try simp only [Act.put, List.setIfInBounds_toArray, List.set_cons_zero, List.set_cons_succ]))
          repeat (first | (refine lex_take (v := ?_) rfl (by rfl) (by assumption) ?_ ?_; rotate_left 1; (focus (intro w hSw; (try dsimp only at hSw); go_simp; (try with_reducible rfl))); (try simp only [Act.put, List.setIfInBounds_toArray, List.set_cons_zero, List.set_cons_succ])) | (refine lex_pass rfl (by rfl) (by assumption) ?_; (try simp only [Act.put, List.setIfInBounds_toArray, List.set_cons_zero, List.set_cons_succ])))
          (refine lex_call rfl (by rfl) (fun K hq => ?_); go_simp)
          go_at_call 13
          refine (hBA.out _).mono ?_; rintro e v3 ⟨rfl, hb3⟩
          have q3 := Lay2.next q2.out hb3
          clear hHeld hb3 q2
          have hHeld : (fun W : World => (W.cell? ⟨w.heap.size, 0, none⟩ = some (.int .i64 x) ∧ W.cell? ⟨w.heap.size, 1, none⟩ = some (.int .i64 y)) ∧ (W.cell? ⟨(w.heap.size + 1), 0, none⟩ = some (.int .i64 x2) ∧ W.cell? ⟨(w.heap.size + 1), 1, none⟩ = some (.int .i64 y2)) ∧ (W.cell? ⟨(w.heap.size + 2), 0, none⟩ = some (.int .i64 x3) ∧ W.cell? ⟨(w.heap.size + 2), 1, none⟩ = some (.int .i64 y3))) v3 := ⟨q3.cells (b := w.heap.size) (p := (x, y)) (by simp), q3.cells (b := (w.heap.size + 1)) (p := (x2, y2)) (by simp), q3.cells (b := (w.heap.size + 2)) (p := (x3, y3)) (by simp)⟩
          replace q3 := Lib.hid q3
          go_wp2_with fail
          (refine hq.out _ _ (fun W : World => (W.cell? ⟨w.heap.size, 0, none⟩ = some (.int .i64 x) ∧ W.cell? ⟨w.heap.size, 1, none⟩ = some (.int .i64 y)) ∧ (W.cell? ⟨(w.heap.size + 1), 0, none⟩ = some (.int .i64 x2) ∧ W.cell? ⟨(w.heap.size + 1), 1, none⟩ = some (.int .i64 y2)) ∧ (W.cell? ⟨(w.heap.size + 2), 0, none⟩ = some (.int .i64 x3) ∧ W.cell? ⟨(w.heap.size + 2), 1, none⟩ = some (.int .i64 y3))) (fun _ h => h) hHeld ?_; clear hq K; (try simp only [Act.put, List.setIfInBounds_toArray, List.set_cons_zero, List.set_cons_succ]))
          repeat (first | (refine lex_take (v := ?_) rfl (by rfl) (by assumption) ?_ ?_; rotate_left 1; (focus (intro w hSw; (try dsimp only at hSw); go_simp; (try with_reducible rfl))); (try simp only [Act.put, List.setIfInBounds_toArray, List.set_cons_zero, List.set_cons_succ])) | (refine lex_pass rfl (by rfl) (by assumption) ?_; (try simp only [Act.put, List.setIfInBounds_toArray, List.set_cons_zero, List.set_cons_succ])))
          (refine lex_call rfl (by rfl) (fun K hq => ?_); go_simp)
          go_at_call 13
          refine (hAB.out _).mono ?_; rintro e v4 ⟨rfl, hb4⟩
          have q4 := Lay2.next q3.out hb4
          clear hHeld hb4 q3
          have hHeld : (fun W : World => (W.cell? ⟨w.heap.size, 0, none⟩ = some (.int .i64 x) ∧ W.cell? ⟨w.heap.size, 1, none⟩ = some (.int .i64 y)) ∧ (W.cell? ⟨(w.heap.size + 1), 0, none⟩ = some (.int .i64 x2) ∧ W.cell? ⟨(w.heap.size + 1), 1, none⟩ = some (.int .i64 y2)) ∧ (W.cell? ⟨(w.heap.size + 2), 0, none⟩ = some (.int .i64 x3) ∧ W.cell? ⟨(w.heap.size + 2), 1, none⟩ = some (.int .i64 y3))) v4 := ⟨q4.cells (b := w.heap.size) (p := (x, y)) (by simp), q4.cells (b := (w.heap.size + 1)) (p := (x2, y2)) (by simp), q4.cells (b := (w.heap.size + 2)) (p := (x3, y3)) (by simp)⟩
          replace q4 := Lib.hid q4
          go_wp2_with fail
          (refine hq.out _ _ (fun W : World => (W.cell? ⟨w.heap.size, 0, none⟩ = some (.int .i64 x) ∧ W.cell? ⟨w.heap.size, 1, none⟩ = some (.int .i64 y)) ∧ (W.cell? ⟨(w.heap.size + 1), 0, none⟩ = some (.int .i64 x2) ∧ W.cell? ⟨(w.heap.size + 1), 1, none⟩ = some (.int .i64 y2)) ∧ (W.cell? ⟨(w.heap.size + 2), 0, none⟩ = some (.int .i64 x3) ∧ W.cell? ⟨(w.heap.size + 2), 1, none⟩ = some (.int .i64 y3))) (fun _ h => h) hHeld ?_; clear hq K; (try simp only [Act.put, List.setIfInBounds_toArray, List.set_cons_zero, List.set_cons_succ]))
          repeat (first | (refine lex_take (v := ?_) rfl (by rfl) (by assumption) ?_ ?_; rotate_left 1; (focus (intro w hSw; (try dsimp only at hSw); go_simp; (try with_reducible rfl))); (try simp only [Act.put, List.setIfInBounds_toArray, List.set_cons_zero, List.set_cons_succ])) | (refine lex_pass rfl (by rfl) (by assumption) ?_; (try simp only [Act.put, List.setIfInBounds_toArray, List.set_cons_zero, List.set_cons_succ])))
          (refine lex_call rfl (by rfl) (fun K hq => ?_); go_simp)
          go_at_call 13
          refine (hBC.out _).mono ?_; rintro e v5 ⟨rfl, hb5⟩
          have q5 := Lay2.next q4.out hb5
          clear hHeld hb5 q4
          have hHeld : (fun W : World => (W.cell? ⟨w.heap.size, 0, none⟩ = some (.int .i64 x) ∧ W.cell? ⟨w.heap.size, 1, none⟩ = some (.int .i64 y)) ∧ (W.cell? ⟨(w.heap.size + 1), 0, none⟩ = some (.int .i64 x2) ∧ W.cell? ⟨(w.heap.size + 1), 1, none⟩ = some (.int .i64 y2)) ∧ (W.cell? ⟨(w.heap.size + 2), 0, none⟩ = some (.int .i64 x3) ∧ W.cell? ⟨(w.heap.size + 2), 1, none⟩ = some (.int .i64 y3))) v5 := ⟨q5.cells (b := w.heap.size) (p := (x, y)) (by simp), q5.cells (b := (w.heap.size + 1)) (p := (x2, y2)) (by simp), q5.cells (b := (w.heap.size + 2)) (p := (x3, y3)) (by simp)⟩
          replace q5 := Lib.hid q5
          go_wp2_with fail
          (refine hq.out _ _ (fun W : World => (W.cell? ⟨w.heap.size, 0, none⟩ = some (.int .i64 x) ∧ W.cell? ⟨w.heap.size, 1, none⟩ = some (.int .i64 y)) ∧ (W.cell? ⟨(w.heap.size + 1), 0, none⟩ = some (.int .i64 x2) ∧ W.cell? ⟨(w.heap.size + 1), 1, none⟩ = some (.int .i64 y2)) ∧ (W.cell? ⟨(w.heap.size + 2), 0, none⟩ = some (.int .i64 x3) ∧ W.cell? ⟨(w.heap.size + 2), 1, none⟩ = some (.int .i64 y3))) (fun _ h => h) hHeld ?_; clear hq K; (try simp only [Act.put, List.setIfInBounds_toArray, List.set_cons_zero, List.set_cons_succ]))
          repeat (first | (refine lex_take (v := ?_) rfl (by rfl) (by assumption) ?_ ?_; rotate_left 1; (focus (intro w hSw; (try dsimp only at hSw); go_simp; (try with_reducible rfl))); (try simp only [Act.put, List.setIfInBounds_toArray, List.set_cons_zero, List.set_cons_succ])) | (refine lex_pass rfl (by rfl) (by assumption) ?_; (try simp only [Act.put, List.setIfInBounds_toArray, List.set_cons_zero, List.set_cons_succ])))
          (refine lex_call rfl (by rfl) (fun K hq => ?_); go_simp)
          go_at_call 13
          refine (hAC.out _).mono ?_; rintro e v6 ⟨rfl, hb6⟩
          have q6 := Lay2.next q5.out hb6
          clear hHeld hb6 q5
          have hHeld : (fun W : World => (W.cell? ⟨w.heap.size, 0, none⟩ = some (.int .i64 x) ∧ W.cell? ⟨w.heap.size, 1, none⟩ = some (.int .i64 y)) ∧ (W.cell? ⟨(w.heap.size + 1), 0, none⟩ = some (.int .i64 x2) ∧ W.cell? ⟨(w.heap.size + 1), 1, none⟩ = some (.int .i64 y2)) ∧ (W.cell? ⟨(w.heap.size + 2), 0, none⟩ = some (.int .i64 x3) ∧ W.cell? ⟨(w.heap.size + 2), 1, none⟩ = some (.int .i64 y3))) v6 := ⟨q6.cells (b := w.heap.size) (p := (x, y)) (by simp), q6.cells (b := (w.heap.size + 1)) (p := (x2, y2)) (by simp), q6.cells (b := (w.heap.size + 2)) (p := (x3, y3)) (by simp)⟩
          replace q6 := Lib.hid q6
          go_wp2_with fail
          (refine hq.out _ _ (fun W : World => (W.cell? ⟨w.heap.size, 0, none⟩ = some (.int .i64 x) ∧ W.cell? ⟨w.heap.size, 1, none⟩ = some (.int .i64 y)) ∧ (W.cell? ⟨(w.heap.size + 1), 0, none⟩ = some (.int .i64 x2) ∧ W.cell? ⟨(w.heap.size + 1), 1, none⟩ = some (.int .i64 y2)) ∧ (W.cell? ⟨(w.heap.size + 2), 0, none⟩ = some (.int .i64 x3) ∧ W.cell? ⟨(w.heap.size + 2), 1, none⟩ = some (.int .i64 y3))) (fun _ h => h) hHeld ?_; clear hq K; (try simp only [Act.put, List.setIfInBounds_toArray, List.set_cons_zero, List.set_cons_succ]))
          repeat (first | (refine lex_take (v := ?_) rfl (by rfl) (by assumption) ?_ ?_; rotate_left 1; (focus (intro w hSw; (try dsimp only at hSw); go_simp; (try with_reducible rfl))); (try simp only [Act.put, List.setIfInBounds_toArray, List.set_cons_zero, List.set_cons_succ])) | (refine lex_pass rfl (by rfl) (by assumption) ?_; (try simp only [Act.put, List.setIfInBounds_toArray, List.set_cons_zero, List.set_cons_succ])))
          refine lex_end ?_
          refine hR.out _ _ ?_
          clear hR R
          have L1 := q6
          clear q6
          go_upto_region 3 with fail
          obtain ⟨x0, x1⟩ := L1.out.cells (b := w.heap.size) (p := (x, y)) (by simp)
          go_wp2_with fail
          refine (hPa.out _ L1.out.below).mono ?_; rintro e w2 ⟨rfl, hb⟩
          have L2 := L1.out.next hb
          replace L2 := Lib.hid L2
          clear hb x0 x1
          go_wp2_with fail
          refine (hPs.out _ L2.out.below).mono ?_; rintro e w3 ⟨v, rfl, hv, hb⟩
          have L3 := L2.out.next hb
          clear hb
          obtain ⟨_, rfl⟩ := hv.resolve_right (fun h => h.1 rfl)
          clear hv
          replace L3 := Lib.hid L3
          go_upto_region 4 with fail
          refine worldI (α := fun W' => Code.wp _ _ _ _ W') (Lay2 w sv ((w3.heap.size, (x, y)) :: [(w.heap.size, (x, y)), (w.heap.size + 1, (x2, y2)), (w.heap.size + 2, (x3, y3))]) .nilIface [] 0) (L3.out.add x y) fun W4 L4 => ?_
          obtain ⟨x0, x1⟩ := L4.cells (b := w.heap.size) (p := (x, y)) (by simp)
          replace L4 := Lib.hid L4
          go_wp2_with fail
          refine (hRx.out _).mono ?_; rintro e w6 ⟨rfl, hb⟩
          have L6 := L4.out.next hb
          clear hb x0 x1
          obtain ⟨x0, x1⟩ := L6.cells (b := w.heap.size) (p := (x, y)) (by simp)
          obtain ⟨z0, z1⟩ := L6.cells (b := w3.heap.size) (p := (x, y)) (by simp)
          replace L6 := Lib.hid L6
          go_wp2_with fail
          refine (hRx.out _).mono ?_; rintro e w5 ⟨rfl, hb⟩
          have L5 := L6.out.next hb
          clear hb x0 x1 z0 z1
          replace L5 := Lib.hid L5
          go_upto_region 6 with fail
          refine wp_region_lex [(true, 0), (true, 2), (true, 5), (true, 6), (true, 7), (false, 1), (false, 3), (true, 4), (true, 8), (true, 9), (false, 10), (true, 11), (true, 12)] (fun W : World => (W.cell? ⟨w.heap.size, 0, none⟩ = some (.int .i64 x) ∧ W.cell? ⟨w.heap.size, 1, none⟩ = some (.int .i64 y)) ∧ (W.cell? ⟨(w.heap.size + 1), 0, none⟩ = some (.int .i64 x2) ∧ W.cell? ⟨(w.heap.size + 1), 1, none⟩ = some (.int .i64 y2))) (by kernel_rfl) (by kernel_rfl) (fun R hR => ?_)
          have q0 := (L5.out).drew
          have hHeld : (fun W : World => (W.cell? ⟨w.heap.size, 0, none⟩ = some (.int .i64 x) ∧ W.cell? ⟨w.heap.size, 1, none⟩ = some (.int .i64 y)) ∧ (W.cell? ⟨(w.heap.size + 1), 0, none⟩ = some (.int .i64 x2) ∧ W.cell? ⟨(w.heap.size + 1), 1, none⟩ = some (.int .i64 y2))) _ := ⟨q0.cells (b := w.heap.size) (p := (x, y)) (by simp), q0.cells (b := (w.heap.size + 1)) (p := (x2, y2)) (by simp)⟩
          replace q0 := Lib.hid q0
          repeat (first | (refine lex_take (v := ?_) rfl (by rfl) (by assumption) ?_ ?_; rotate_left 1; (focus (intro w hSw; (try dsimp only at hSw); go_simp; (try with_reducible rfl))); (try simp only [Act.put, List.setIfInBounds_toArray, List.set_cons_zero, List.set_cons_succ])) | (refine lex_pass rfl (by rfl) (by assumption) ?_; (try simp only [Act.put, List.setIfInBounds_toArray, List.set_cons_zero, List.set_cons_succ])))
          (refine lex_call rfl (by rfl) (fun K hq => ?_); go_simp)
          go_at_call 15
          refine (hPa.out _ q0.out.below).mono ?_; rintro e v1 ⟨rfl, hb1⟩
          have q1 := Lay2.next q0.out hb1
          clear hHeld hb1 q0
          have hHeld : (fun W : World => (W.cell? ⟨w.heap.size, 0, none⟩ = some (.int .i64 x) ∧ W.cell? ⟨w.heap.size, 1, none⟩ = some (.int .i64 y)) ∧ (W.cell? ⟨(w.heap.size + 1), 0, none⟩ = some (.int .i64 x2) ∧ W.cell? ⟨(w.heap.size + 1), 1, none⟩ = some (.int .i64 y2))) v1 := ⟨q1.cells (b := w.heap.size) (p := (x, y)) (by simp), q1.cells (b := (w.heap.size + 1)) (p := (x2, y2)) (by simp)⟩
          replace q1 := Lib.hid q1
          go_wp2_with fail
          (refine hq.out _ _ (fun W : World => (W.cell? ⟨w.heap.size, 0, none⟩ = some (.int .i64 x) ∧ W.cell? ⟨w.heap.size, 1, none⟩ = some (.int .i64 y)) ∧ (W.cell? ⟨(w.heap.size + 1), 0, none⟩ = some (.int .i64 x2) ∧ W.cell? ⟨(w.heap.size + 1), 1, none⟩ = some (.int .i64 y2))) (fun _ h => h) hHeld ?_; clear hq K; (try simp only [Act.put, List.setIfInBounds_toArray, List.set_cons_zero, List.set_cons_succ]))
          repeat (first | (refine lex_take (v := ?_) rfl (by rfl) (by assumption) ?_ ?_; rotate_left 1; (focus (intro w hSw; (try dsimp only at hSw); go_simp; (try with_reducible rfl))); (try simp only [Act.put, List.setIfInBounds_toArray, List.set_cons_zero, List.set_cons_succ])) | (refine lex_pass rfl (by rfl) (by assumption) ?_; (try simp only [Act.put, List.setIfInBounds_toArray, List.set_cons_zero, List.set_cons_succ])))
          (refine lex_call rfl (by rfl) (fun K hq => ?_); go_simp)
          go_at_call 15
          refine (hPb.out _ q1.out.below).mono ?_; rintro e v2 ⟨rfl, hb2⟩
          have q2 := Lay2.next q1.out hb2
          clear hHeld hb2 q1
          have hHeld : (fun W : World => (W.cell? ⟨w.heap.size, 0, none⟩ = some (.int .i64 x) ∧ W.cell? ⟨w.heap.size, 1, none⟩ = some (.int .i64 y)) ∧ (W.cell? ⟨(w.heap.size + 1), 0, none⟩ = some (.int .i64 x2) ∧ W.cell? ⟨(w.heap.size + 1), 1, none⟩ = some (.int .i64 y2))) v2 := ⟨q2.cells (b := w.heap.size) (p := (x, y)) (by simp), q2.cells (b := (w.heap.size + 1)) (p := (x2, y2)) (by simp)⟩
          replace q2 := Lib.hid q2
          go_wp2_with fail
          (refine hq.out _ _ (fun W : World => (W.cell? ⟨w.heap.size, 0, none⟩ = some (.int .i64 x) ∧ W.cell? ⟨w.heap.size, 1, none⟩ = some (.int .i64 y)) ∧ (W.cell? ⟨(w.heap.size + 1), 0, none⟩ = some (.int .i64 x2) ∧ W.cell? ⟨(w.heap.size + 1), 1, none⟩ = some (.int .i64 y2))) (fun _ h => h) hHeld ?_; clear hq K; (try simp only [Act.put, List.setIfInBounds_toArray, List.set_cons_zero, List.set_cons_succ]))
          repeat (first | (refine lex_take (v := ?_) rfl (by rfl) (by assumption) ?_ ?_; rotate_left 1; (focus (intro w hSw; (try dsimp only at hSw); go_simp; (try with_reducible rfl))); (try simp only [Act.put, List.setIfInBounds_toArray, List.set_cons_zero, List.set_cons_succ])) | (refine lex_pass rfl (by rfl) (by assumption) ?_; (try simp only [Act.put, List.setIfInBounds_toArray, List.set_cons_zero, List.set_cons_succ])))
          (refine lex_call rfl (by rfl) (fun K hq => ?_); go_simp)
          go_at_call 8
          refine (hAw.out _ q2.out.below).mono ?_; rintro e v3 ⟨rfl, hb3⟩
          have q3 := Lay2.next q2.out hb3
          clear hHeld hb3 q2
          have hHeld : (fun W : World => (W.cell? ⟨w.heap.size, 0, none⟩ = some (.int .i64 x) ∧ W.cell? ⟨w.heap.size, 1, none⟩ = some (.int .i64 y)) ∧ (W.cell? ⟨(w.heap.size + 1), 0, none⟩ = some (.int .i64 x2) ∧ W.cell? ⟨(w.heap.size + 1), 1, none⟩ = some (.int .i64 y2))) v3 := ⟨q3.cells (b := w.heap.size) (p := (x, y)) (by simp), q3.cells (b := (w.heap.size + 1)) (p := (x2, y2)) (by simp)⟩
          replace q3 := Lib.hid q3
          go_wp2_with fail
          (refine hq.out _ _ (fun W : World => (W.cell? ⟨w.heap.size, 0, none⟩ = some (.int .i64 x) ∧ W.cell? ⟨w.heap.size, 1, none⟩ = some (.int .i64 y)) ∧ (W.cell? ⟨(w.heap.size + 1), 0, none⟩ = some (.int .i64 x2) ∧ W.cell? ⟨(w.heap.size + 1), 1, none⟩ = some (.int .i64 y2))) (fun _ h => h) hHeld ?_; clear hq K; (try simp only [Act.put, List.setIfInBounds_toArray, List.set_cons_zero, List.set_cons_succ]))
          repeat (first | (refine lex_take (v := ?_) rfl (by rfl) (by assumption) ?_ ?_; rotate_left 1; (focus (intro w hSw; (try dsimp only at hSw); go_simp; (try with_reducible rfl))); (try simp only [Act.put, List.setIfInBounds_toArray, List.set_cons_zero, List.set_cons_succ])) | (refine lex_pass rfl (by rfl) (by assumption) ?_; (try simp only [Act.put, List.setIfInBounds_toArray, List.set_cons_zero, List.set_cons_succ])))
          refine lex_end ?_
          refine hR.out _ _ ?_
          clear hR R
          go_wp2_with fail
          go_ret
          exact ⟨rfl, q3.out.below⟩
      · subst h0
        cases rx
        · have hP4 := Lib.hid (hwrong rfl)
          clear hwrong hright
          replace hRx := Lib.hid hRx
          go_enter Tryz.func4, Tryz.ntmps4
          go_upto_region 1 with fail
          refine wp_region_lex [(true, 0), (true, 1), (true, 2), (true, 3), (true, 4), (false, 5), (true, 6), (true, 7), (true, 8), (true, 9), (false, 10), (true, 11), (true, 12), (true, 13), (true, 14), (true, 15), (true, 16), (false, 17), (true, 18), (true, 19), (true, 20), (false, 21), (true, 22), (true, 23), (true, 24), (true, 25), (true, 26), (false, 27), (true, 28), (true, 29), (true, 30), (false, 31), (true, 32), (true, 33), (true, 34), (true, 35), (false, 36), (true, 37), (true, 38), (true, 39)] (fun W : World => (W.cell? ⟨w.heap.size, 0, none⟩ = some (.int .i64 x) ∧ W.cell? ⟨w.heap.size, 1, none⟩ = some (.int .i64 y)) ∧ (W.cell? ⟨(w.heap.size + 1), 0, none⟩ = some (.int .i64 x) ∧ W.cell? ⟨(w.heap.size + 1), 1, none⟩ = some (.int .i64 y2)) ∧ (W.cell? ⟨(w.heap.size + 2), 0, none⟩ = some (.int .i64 x3) ∧ W.cell? ⟨(w.heap.size + 2), 1, none⟩ = some (.int .i64 y3))) (by kernel_rfl) (by kernel_rfl) (fun R hR => ?_)
          have q0 := (L0.out).drew
          have hHeld : (fun W : World => (W.cell? ⟨w.heap.size, 0, none⟩ = some (.int .i64 x) ∧ W.cell? ⟨w.heap.size, 1, none⟩ = some (.int .i64 y)) ∧ (W.cell? ⟨(w.heap.size + 1), 0, none⟩ = some (.int .i64 x) ∧ W.cell? ⟨(w.heap.size + 1), 1, none⟩ = some (.int .i64 y2)) ∧ (W.cell? ⟨(w.heap.size + 2), 0, none⟩ = some (.int .i64 x3) ∧ W.cell? ⟨(w.heap.size + 2), 1, none⟩ = some (.int .i64 y3))) _ := ⟨q0.cells (b := w.heap.size) (p := (x, y)) (by simp), q0.cells (b := (w.heap.size + 1)) (p := (x, y2)) (by simp), q0.cells (b := (w.heap.size + 2)) (p := (x3, y3)) (by simp)⟩
          replace q0 := Lib.hid q0
          repeat (first | (refine lex_take (v := ?_) rfl (by rfl) (by assumption) ?_ ?_; rotate_left 1; (focus (intro w hSw; (try dsimp only at hSw); go_simp; (try with_reducible rfl))); (try simp only [Act.put, List.setIfInBounds_toArray, List.set_cons_zero, List.set_cons_succ])) | (refine lex_pass rfl (by rfl) (by assumption) ?_; (try simp only [Act.put, List.setIfInBounds_toArray, List.set_cons_zero, List.set_cons_succ])))
          (refine lex_call rfl (by rfl) (fun K hq => ?_); go_simp)
          go_at_call 13
          refine (hAB.out _).mono ?_; rintro e v1 ⟨rfl, hb1⟩
          have q1 := Lay2.next q0.out hb1
          clear hHeld hb1 q0
          have hHeld : (fun W : World => (W.cell? ⟨w.heap.size, 0, none⟩ = some (.int .i64 x) ∧ W.cell? ⟨w.heap.size, 1, none⟩ = some (.int .i64 y)) ∧ (W.cell? ⟨(w.heap.size + 1), 0, none⟩ = some (.int .i64 x) ∧ W.cell? ⟨(w.heap.size + 1), 1, none⟩ = some (.int .i64 y2)) ∧ (W.cell? ⟨(w.heap.size + 2), 0, none⟩ = some (.int .i64 x3) ∧ W.cell? ⟨(w.heap.size + 2), 1, none⟩ = some (.int .i64 y3))) v1 := ⟨q1.cells (b := w.heap.size) (p := (x, y)) (by simp), q1.cells (b := (w.heap.size + 1)) (p := (x, y2)) (by simp), q1.cells (b := (w.heap.size + 2)) (p := (x3, y3)) (by simp)⟩
          replace q1 := Lib.hid q1
          go_wp2_with fail
          (refine hq.out _ _ (fun W : World => (W.cell? ⟨w.heap.size, 0, none⟩ = some (.int .i64 x) ∧ W.cell? ⟨w.heap.size, 1, none⟩ = some (.int .i64 y)) ∧ (W.cell? ⟨(w.heap.size + 1), 0, none⟩ = some (.int .i64 x) ∧ W.cell? ⟨(w.heap.size + 1), 1, none⟩ = some (.int .i64 y2)) ∧ (W.cell? ⟨(w.heap.size + 2), 0, none⟩ = some (.int .i64 x3) ∧ W.cell? ⟨(w.heap.size + 2), 1, none⟩ = some (.int .i64 y3))) (fun _ h => h) hHeld ?_; clear hq K; (try simp only [Act.put, List.setIfInBounds_toArray, List.set_cons_zero, List.set_cons_succ]))
          repeat (first | (refine lex_take (v := ?_) rfl (by rfl) (by assumption) ?_ ?_; rotate_left 1; (focus (intro w hSw; (try dsimp only at hSw); go_simp; (try with_reducible rfl))); (try simp only [Act.put, List.setIfInBounds_toArray, List.set_cons_zero, List.set_cons_succ])) | (refine lex_pass rfl (by rfl) (by assumption) ?_; (try simp only [Act.put, List.setIfInBounds_toArray, List.set_cons_zero, List.set_cons_succ])))
          (refine lex_call rfl (by rfl) (fun K hq => ?_); go_simp)
          go_at_call 13
          refine (hAB.out _).mono ?_; rintro e v2 ⟨rfl, hb2⟩
          have q2 := Lay2.next q1.out hb2
          clear hHeld hb2 q1
          have hHeld : (fun W : World => (W.cell? ⟨w.heap.size, 0, none⟩ = some (.int .i64 x) ∧ W.cell? ⟨w.heap.size, 1, none⟩ = some (.int .i64 y)) ∧ (W.cell? ⟨(w.heap.size + 1), 0, none⟩ = some (.int .i64 x) ∧ W.cell? ⟨(w.heap.size + 1), 1, none⟩ = some (.int .i64 y2)) ∧ (W.cell? ⟨(w.heap.size + 2), 0, none⟩ = some (.int .i64 x3) ∧ W.cell? ⟨(w.heap.size + 2), 1, none⟩ = some (.int .i64 y3))) v2 := ⟨q2.cells (b := w.heap.size) (p := (x, y)) (by simp), q2.cells (b := (w.heap.size + 1)) (p := (x, y2)) (by simp), q2.cells (b := (w.heap.size + 2)) (p := (x3, y3)) (by simp)⟩
          replace q2 := Lib.hid q2
          go_wp2_with fail
          (refine hq.out _ _ (fun W : World => (W.cell? ⟨w.heap.size, 0, none⟩ = some (.int .i64 x) ∧ W.cell? ⟨w.heap.size, 1, none⟩ = some (.int .i64 y)) ∧ (W.cell? ⟨(w.heap.size + 1), 0, none⟩ = some (.int .i64 x) ∧ W.cell? ⟨(w.heap.size + 1), 1, none⟩ = some (.int .i64 y2)) ∧ (W.cell? ⟨(w.heap.size + 2), 0, none⟩ = some (.int .i64 x3) ∧ W.cell? ⟨(w.heap.size + 2), 1, none⟩ = some (.int .i64 y3))) (fun _ h => h) hHeld ?_; clear hq K; (try simp only [Act.put, List.setIfInBounds_toArray, List.set_cons_zero, List.set_cons_succ]))
          repeat (first | (refine lex_take (v := ?_) rfl (by rfl) (by assumption) ?_ ?_; rotate_left 1; (focus (intro w hSw; (try dsimp only at hSw); go_simp; (try with_reducible rfl))); (try simp only [Act.put, List.setIfInBounds_toArray, List.set_cons_zero, List.set_cons_succ])) | (refine lex_pass rfl (by rfl) (by assumption) ?_; (try simp only [Act.put, List.setIfInBounds_toArray, List.set_cons_zero, List.set_cons_succ])))
          (refine lex_call rfl (by rfl) (fun K hq => ?_); go_simp)
          go_at_call 13
          refine (hBA.out _).mono ?_; rintro e v3 ⟨rfl, hb3⟩
          have q3 := Lay2.next q2.out hb3
          clear hHeld hb3 q2
          have hHeld : (fun W : World => (W.cell? ⟨w.heap.size, 0, none⟩ = some (.int .i64 x) ∧ W.cell? ⟨w.heap.size, 1, none⟩ = some (.int .i64 y)) ∧ (W.cell? ⟨(w.heap.size + 1), 0, none⟩ = some (.int .i64 x) ∧ W.cell? ⟨(w.heap.size + 1), 1, none⟩ = some (.int .i64 y2)) ∧ (W.cell? ⟨(w.heap.size + 2), 0, none⟩ = some (.int .i64 x3) ∧ W.cell? ⟨(w.heap.size + 2), 1, none⟩ = some (.int .i64 y3))) v3 := ⟨q3.cells (b := w.heap.size) (p := (x, y)) (by simp), q3.cells (b := (w.heap.size + 1)) (p := (x, y2)) (by simp), q3.cells (b := (w.heap.size + 2)) (p := (x3, y3)) (by simp)⟩
          replace q3 := Lib.hid q3
          go_wp2_with fail
          (refine hq.out _ _ (fun W : World => (W.cell? ⟨w.heap.size, 0, none⟩ = some (.int .i64 x) ∧ W.cell? ⟨w.heap.size, 1, none⟩ = some (.int .i64 y)) ∧ (W.cell? ⟨(w.heap.size + 1), 0, none⟩ = some (.int .i64 x) ∧ W.cell? ⟨(w.heap.size + 1), 1, none⟩ = some (.int .i64 y2)) ∧ (W.cell? ⟨(w.heap.size + 2), 0, none⟩ = some (.int .i64 x3) ∧ W.cell? ⟨(w.heap.size + 2), 1, none⟩ = some (.int .i64 y3))) (fun _ h => h) hHeld ?_; clear hq K; (try simp only [Act.put, List.setIfInBounds_toArray, List.set_cons_zero, List.set_cons_succ]))
          repeat (first | (refine lex_take (v := ?_) rfl (by rfl) (by assumption) ?_ ?_; rotate_left 1; (focus (intro w hSw; (try dsimp only at hSw); go_simp; (try with_reducible rfl))); (try simp only [Act.put, List.setIfInBounds_toArray, List.set_cons_zero, List.set_cons_succ])) | (refine lex_pass rfl (by rfl) (by assumption) ?_; (try simp only [Act.put, List.setIfInBounds_toArray, List.set_cons_zero, List.set_cons_succ])))
          (refine lex_call rfl (by rfl) (fun K hq => ?_); go_simp)
          go_at_call 13
          refine (hAB.out _).mono ?_; rintro e v4 ⟨rfl, hb4⟩
          have q4 := Lay2.next q3.out hb4
          clear hHeld hb4 q3
          have hHeld : (fun W : World => (W.cell? ⟨w.heap.size, 0, none⟩ = some (.int .i64 x) ∧ W.cell? ⟨w.heap.size, 1, none⟩ = some (.int .i64 y)) ∧ (W.cell? ⟨(w.heap.size + 1), 0, none⟩ = some (.int .i64 x) ∧ W.cell? ⟨(w.heap.size + 1), 1, none⟩ = some (.int .i64 y2)) ∧ (W.cell? ⟨(w.heap.size + 2), 0, none⟩ = some (.int .i64 x3) ∧ W.cell? ⟨(w.heap.size + 2), 1, none⟩ = some (.int .i64 y3))) v4 := ⟨q4.cells (b := w.heap.size) (p := (x, y)) (by simp), q4.cells (b := (w.heap.size + 1)) (p := (x, y2)) (by simp), q4.cells (b := (w.heap.size + 2)) (p := (x3, y3)) (by simp)⟩
          replace q4 := Lib.hid q4
          go_wp2_with fail
          (refine hq.out _ _ (fun W : World => (W.cell? ⟨w.heap.size, 0, none⟩ = some (.int .i64 x) ∧ W.cell? ⟨w.heap.size, 1, none⟩ = some (.int .i64 y)) ∧ (W.cell? ⟨(w.heap.size + 1), 0, none⟩ = some (.int .i64 x) ∧ W.cell? ⟨(w.heap.size + 1), 1, none⟩ = some (.int .i64 y2)) ∧ (W.cell? ⟨(w.heap.size + 2), 0, none⟩ = some (.int .i64 x3) ∧ W.cell? ⟨(w.heap.size + 2), 1, none⟩ = some (.int .i64 y3))) (fun _ h => h) hHeld ?_; clear hq K; (try simp only [Act.put, List.setIfInBounds_toArray, List.set_cons_zero, List.set_cons_succ]))
          repeat (first | (refine lex_take (v := ?_) rfl (by rfl) (by assumption) ?_ ?_; rotate_left 1; (focus (intro w hSw; (try dsimp only at hSw); go_simp; (try with_reducible rfl))); (try simp only [Act.put, List.setIfInBounds_toArray, List.set_cons_zero, List.set_cons_succ])) | (refine lex_pass rfl (by rfl) (by assumption) ?_; (try simp only [Act.put, List.setIfInBounds_toArray, List.set_cons_zero, List.set_cons_succ])))
          (refine lex_call rfl (by rfl) (fun K hq => ?_); go_simp)
          go_at_call 13
          refine (hBC.out _).mono ?_; rintro e v5 ⟨rfl, hb5⟩
          have q5 := Lay2.next q4.out hb5
          clear hHeld hb5 q4
          have hHeld : (fun W : World => (W.cell? ⟨w.heap.size, 0, none⟩ = some (.int .i64 x) ∧ W.cell? ⟨w.heap.size, 1, none⟩ = some (.int .i64 y)) ∧ (W.cell? ⟨(w.heap.size + 1), 0, none⟩ = some (.int .i64 x) ∧ W.cell? ⟨(w.heap.size + 1), 1, none⟩ = some (.int .i64 y2)) ∧ (W.cell? ⟨(w.heap.size + 2), 0, none⟩ = some (.int .i64 x3) ∧ W.cell? ⟨(w.heap.size + 2), 1, none⟩ = some (.int .i64 y3))) v5 := ⟨q5.cells (b := w.heap.size) (p := (x, y)) (by simp), q5.cells (b := (w.heap.size + 1)) (p := (x, y2)) (by simp), q5.cells (b := (w.heap.size + 2)) (p := (x3, y3)) (by simp)⟩
          replace q5 := Lib.hid q5
          go_wp2_with fail
          (refine hq.out _ _ (fun W : World => (W.cell? ⟨w.heap.size, 0, none⟩ = some (.int .i64 x) ∧ W.cell? ⟨w.heap.size, 1, none⟩ = some (.int .i64 y)) ∧ (W.cell? ⟨(w.heap.size + 1), 0, none⟩ = some (.int .i64 x) ∧ W.cell? ⟨(w.heap.size + 1), 1, none⟩ = some (.int .i64 y2)) ∧ (W.cell? ⟨(w.heap.size + 2), 0, none⟩ = some (.int .i64 x3) ∧ W.cell? ⟨(w.heap.size + 2), 1, none⟩ = some (.int .i64 y3))) (fun _ h => h) hHeld ?_; clear hq K; (try simp only [Act.put, List.setIfInBounds_toArray, List.set_cons_zero, List.set_cons_succ]))
          repeat (first | (refine lex_take (v := ?_) rfl (by rfl) (by assumption) ?_ ?_; rotate_left 1; (focus (intro w hSw; (try dsimp only at hSw); go_simp; (try with_reducible rfl))); (try simp only [Act.put, List.setIfInBounds_toArray, List.set_cons_zero, List.set_cons_succ])) | (refine lex_pass rfl (by rfl) (by assumption) ?_; (try simp only [Act.put, List.setIfInBounds_toArray, List.set_cons_zero, List.set_cons_succ])))
          (refine lex_call rfl (by rfl) (fun K hq => ?_); go_simp)
          go_at_call 13
          refine (hAC.out _).mono ?_; rintro e v6 ⟨rfl, hb6⟩
          have q6 := Lay2.next q5.out hb6
          clear hHeld hb6 q5
          have hHeld : (fun W : World => (W.cell? ⟨w.heap.size, 0, none⟩ = some (.int .i64 x) ∧ W.cell? ⟨w.heap.size, 1, none⟩ = some (.int .i64 y)) ∧ (W.cell? ⟨(w.heap.size + 1), 0, none⟩ = some (.int .i64 x) ∧ W.cell? ⟨(w.heap.size + 1), 1, none⟩ = some (.int .i64 y2)) ∧ (W.cell? ⟨(w.heap.size + 2), 0, none⟩ = some (.int .i64 x3) ∧ W.cell? ⟨(w.heap.size + 2), 1, none⟩ = some (.int .i64 y3))) v6 := ⟨q6.cells (b := w.heap.size) (p := (x, y)) (by simp), q6.cells (b := (w.heap.size + 1)) (p := (x, y2)) (by simp), q6.cells (b := (w.heap.size + 2)) (p := (x3, y3)) (by simp)⟩
          replace q6 := Lib.hid q6
          go_wp2_with fail
          (refine hq.out _ _ (fun W : World => (W.cell? ⟨w.heap.size, 0, none⟩ = some (.int .i64 x) ∧ W.cell? ⟨w.heap.size, 1, none⟩ = some (.int .i64 y)) ∧ (W.cell? ⟨(w.heap.size + 1), 0, none⟩ = some (.int .i64 x) ∧ W.cell? ⟨(w.heap.size + 1), 1, none⟩ = some (.int .i64 y2)) ∧ (W.cell? ⟨(w.heap.size + 2), 0, none⟩ = some (.int .i64 x3) ∧ W.cell? ⟨(w.heap.size + 2), 1, none⟩ = some (.int .i64 y3))) (fun _ h => h) hHeld ?_; clear hq K; (try simp only [Act.put, List.setIfInBounds_toArray, List.set_cons_zero, List.set_cons_succ]))
          repeat (first | (refine lex_take (v := ?_) rfl (by rfl) (by assumption) ?_ ?_; rotate_left 1; (focus (intro w hSw; (try dsimp only at hSw); go_simp; (try with_reducible rfl))); (try simp only [Act.put, List.setIfInBounds_toArray, List.set_cons_zero, List.set_cons_succ])) | (refine lex_pass rfl (by rfl) (by assumption) ?_; (try simp only [Act.put, List.setIfInBounds_toArray, List.set_cons_zero, List.set_cons_succ])))
          refine lex_end ?_
          refine hR.out _ _ ?_
          clear hR R
          have L1 := q6
          clear q6
          go_upto_region 3 with fail
          obtain ⟨x0, x1⟩ := L1.out.cells (b := w.heap.size) (p := (x, y)) (by simp)
          go_wp2_with fail
          refine (hPa.out _ L1.out.below).mono ?_; rintro e w2 ⟨rfl, hb⟩
          have L2 := L1.out.next hb
          replace L2 := Lib.hid L2
          clear hb x0 x1
          go_wp2_with fail
          refine (hPs.out _ L2.out.below).mono ?_; rintro e w3 ⟨v, rfl, hv, hb⟩
          have L3 := L2.out.next hb
          clear hb
          obtain ⟨_, hv3, _⟩ := hv.resolve_left (fun h => by have h1 := h.1; rw [hP4.out] at h1; exact absurd h1 (by decide))
          obtain ⟨ty, u, rfl⟩ := hv3.iface
          clear hv hv3
          replace L3 := Lib.hid L3
          go_upto_region 4 with fail
          refine worldI (α := fun W' => Code.wp _ _ _ _ W') (Lay2 w sv ((w3.heap.size, (P.1.1, P.1.2)) :: [(w.heap.size, (x, y)), (w.heap.size + 1, (x, y2)), (w.heap.size + 2, (x3, y3))]) .nilIface [] 0) (L3.out.add P.1.1 P.1.2) fun W4 L4 => ?_
          obtain ⟨x0, x1⟩ := L4.cells (b := w.heap.size) (p := (x, y)) (by simp)
          replace L4 := Lib.hid L4
          go_wp2_with fail
          refine (hRx.out _).mono ?_; rintro e w6 ⟨rfl, hb⟩
          have L6 := L4.out.next hb
          clear hb x0 x1
          obtain ⟨x0, x1⟩ := L6.cells (b := w.heap.size) (p := (x, y)) (by simp)
          replace L6 := Lib.hid L6
          go_wp2_with fail
          refine (hRx.out _).mono ?_; rintro e w5 ⟨rfl, hb⟩
          have L5 := L6.out.next hb
          clear hb x0 x1
          replace L5 := Lib.hid L5
          go_upto_region 6 with fail
          refine wp_region_lex [(true, 0), (true, 2), (true, 5), (true, 6), (true, 7), (false, 1), (false, 3), (true, 4), (true, 8), (true, 9), (false, 10), (true, 11), (true, 12)] (fun W : World => (W.cell? ⟨w.heap.size, 0, none⟩ = some (.int .i64 x) ∧ W.cell? ⟨w.heap.size, 1, none⟩ = some (.int .i64 y)) ∧ (W.cell? ⟨(w.heap.size + 1), 0, none⟩ = some (.int .i64 x) ∧ W.cell? ⟨(w.heap.size + 1), 1, none⟩ = some (.int .i64 y2))) (by kernel_rfl) (by kernel_rfl) (fun R hR => ?_)
          have q0 := (L5.out).drew
          have hHeld : (fun W : World => (W.cell? ⟨w.heap.size, 0, none⟩ = some (.int .i64 x) ∧ W.cell? ⟨w.heap.size, 1, none⟩ = some (.int .i64 y)) ∧ (W.cell? ⟨(w.heap.size + 1), 0, none⟩ = some (.int .i64 x) ∧ W.cell? ⟨(w.heap.size + 1), 1, none⟩ = some (.int .i64 y2))) _ := ⟨q0.cells (b := w.heap.size) (p := (x, y)) (by simp), q0.cells (b := (w.heap.size + 1)) (p := (x, y2)) (by simp)⟩
          replace q0 := Lib.hid q0
          repeat (first | (refine lex_take (v := ?_) rfl (by rfl) (by assumption) ?_ ?_; rotate_left 1; (focus (intro w hSw; (try dsimp only at hSw); go_simp; (try with_reducible rfl))); (try simp only [Act.put, List.setIfInBounds_toArray, List.set_cons_zero, List.set_cons_succ])) | (refine lex_pass rfl (by rfl) (by assumption) ?_; (try simp only [Act.put, List.setIfInBounds_toArray, List.set_cons_zero, List.set_cons_succ])))
          (refine lex_call rfl (by rfl) (fun K hq => ?_); go_simp)
          go_at_call 15
          refine (hPa.out _ q0.out.below).mono ?_; rintro e v1 ⟨rfl, hb1⟩
          have q1 := Lay2.next q0.out hb1
          clear hHeld hb1 q0
          have hHeld : (fun W : World => (W.cell? ⟨w.heap.size, 0, none⟩ = some (.int .i64 x) ∧ W.cell? ⟨w.heap.size, 1, none⟩ = some (.int .i64 y)) ∧ (W.cell? ⟨(w.heap.size + 1), 0, none⟩ = some (.int .i64 x) ∧ W.cell? ⟨(w.heap.size + 1), 1, none⟩ = some (.int .i64 y2))) v1 := ⟨q1.cells (b := w.heap.size) (p := (x, y)) (by simp), q1.cells (b := (w.heap.size + 1)) (p := (x, y2)) (by simp)⟩
          replace q1 := Lib.hid q1
          go_wp2_with fail
          (refine hq.out _ _ (fun W : World => (W.cell? ⟨w.heap.size, 0, none⟩ = some (.int .i64 x) ∧ W.cell? ⟨w.heap.size, 1, none⟩ = some (.int .i64 y)) ∧ (W.cell? ⟨(w.heap.size + 1), 0, none⟩ = some (.int .i64 x) ∧ W.cell? ⟨(w.heap.size + 1), 1, none⟩ = some (.int .i64 y2))) (fun _ h => h) hHeld ?_; clear hq K; (try simp only [Act.put, List.setIfInBounds_toArray, List.set_cons_zero, List.set_cons_succ]))
          repeat (first | (refine lex_take (v := ?_) rfl (by rfl) (by assumption) ?_ ?_; rotate_left 1; (focus (intro w hSw; (try dsimp only at hSw); go_simp; (try with_reducible rfl))); (try simp only [Act.put, List.setIfInBounds_toArray, List.set_cons_zero, List.set_cons_succ])) | (refine lex_pass rfl (by rfl) (by assumption) ?_; (try simp only [Act.put, List.setIfInBounds_toArray, List.set_cons_zero, List.set_cons_succ])))
          (refine lex_call rfl (by rfl) (fun K hq => ?_); go_simp)
          go_at_call 15
          refine (hPb.out _ q1.out.below).mono ?_; rintro e v2 ⟨rfl, hb2⟩
          have q2 := Lay2.next q1.out hb2
          clear hHeld hb2 q1
          have hHeld : (fun W : World => (W.cell? ⟨w.heap.size, 0, none⟩ = some (.int .i64 x) ∧ W.cell? ⟨w.heap.size, 1, none⟩ = some (.int .i64 y)) ∧ (W.cell? ⟨(w.heap.size + 1), 0, none⟩ = some (.int .i64 x) ∧ W.cell? ⟨(w.heap.size + 1), 1, none⟩ = some (.int .i64 y2))) v2 := ⟨q2.cells (b := w.heap.size) (p := (x, y)) (by simp), q2.cells (b := (w.heap.size + 1)) (p := (x, y2)) (by simp)⟩
          replace q2 := Lib.hid q2
          go_wp2_with fail
          (refine hq.out _ _ (fun W : World => (W.cell? ⟨w.heap.size, 0, none⟩ = some (.int .i64 x) ∧ W.cell? ⟨w.heap.size, 1, none⟩ = some (.int .i64 y)) ∧ (W.cell? ⟨(w.heap.size + 1), 0, none⟩ = some (.int .i64 x) ∧ W.cell? ⟨(w.heap.size + 1), 1, none⟩ = some (.int .i64 y2))) (fun _ h => h) hHeld ?_; clear hq K; (try simp only [Act.put, List.setIfInBounds_toArray, List.set_cons_zero, List.set_cons_succ]))
          repeat (first | (refine lex_take (v := ?_) rfl (by rfl) (by assumption) ?_ ?_; rotate_left 1; (focus (intro w hSw; (try dsimp only at hSw); go_simp; (try with_reducible rfl))); (try simp only [Act.put, List.setIfInBounds_toArray, List.set_cons_zero, List.set_cons_succ])) | (refine lex_pass rfl (by rfl) (by assumption) ?_; (try simp only [Act.put, List.setIfInBounds_toArray, List.set_cons_zero, List.set_cons_succ])))
          (refine lex_call rfl (by rfl) (fun K hq => ?_); go_simp)
          go_at_call 8
          refine (hAw.out _ q2.out.below).mono ?_; rintro e v3 ⟨rfl, hb3⟩
          have q3 := Lay2.next q2.out hb3
          clear hHeld hb3 q2
          have hHeld : (fun W : World => (W.cell? ⟨w.heap.size, 0, none⟩ = some (.int .i64 x) ∧ W.cell? ⟨w.heap.size, 1, none⟩ = some (.int .i64 y)) ∧ (W.cell? ⟨(w.heap.size + 1), 0, none⟩ = some (.int .i64 x) ∧ W.cell? ⟨(w.heap.size + 1), 1, none⟩ = some (.int .i64 y2))) v3 := ⟨q3.cells (b := w.heap.size) (p := (x, y)) (by simp), q3.cells (b := (w.heap.size + 1)) (p := (x, y2)) (by simp)⟩
          replace q3 := Lib.hid q3
          go_wp2_with fail
          (refine hq.out _ _ (fun W : World => (W.cell? ⟨w.heap.size, 0, none⟩ = some (.int .i64 x) ∧ W.cell? ⟨w.heap.size, 1, none⟩ = some (.int .i64 y)) ∧ (W.cell? ⟨(w.heap.size + 1), 0, none⟩ = some (.int .i64 x) ∧ W.cell? ⟨(w.heap.size + 1), 1, none⟩ = some (.int .i64 y2))) (fun _ h => h) hHeld ?_; clear hq K; (try simp only [Act.put, List.setIfInBounds_toArray, List.set_cons_zero, List.set_cons_succ]))
          repeat (first | (refine lex_take (v := ?_) rfl (by rfl) (by assumption) ?_ ?_; rotate_left 1; (focus (intro w hSw; (try dsimp only at hSw); go_simp; (try with_reducible rfl))); (try simp only [Act.put, List.setIfInBounds_toArray, List.set_cons_zero, List.set_cons_succ])) | (refine lex_pass rfl (by rfl) (by assumption) ?_; (try simp only [Act.put, List.setIfInBounds_toArray, List.set_cons_zero, List.set_cons_succ])))
          refine lex_end ?_
          refine hR.out _ _ ?_
          clear hR R
          go_wp2_with fail
          go_ret
          exact ⟨rfl, q3.out.below⟩
        · have hP4 := hright rfl
          subst hP4
          clear hwrong hright
          replace hRx := Lib.hid hRx
          go_enter Tryz.func4, Tryz.ntmps4
          go_upto_region 1 with fail
          refine wp_region_lex [(true, 0), (true, 1), (true, 2), (true, 3), (true, 4), (false, 5), (true, 6), (true, 7), (true, 8), (true, 9), (false, 10), (true, 11), (true, 12), (true, 13), (true, 14), (true, 15), (true, 16), (false, 17), (true, 18), (true, 19), (true, 20), (false, 21), (true, 22), (true, 23), (true, 24), (true, 25), (true, 26), (false, 27), (true, 28), (true, 29), (true, 30), (false, 31), (true, 32), (true, 33), (true, 34), (true, 35), (false, 36), (true, 37), (true, 38), (true, 39)] (fun W : World => (W.cell? ⟨w.heap.size, 0, none⟩ = some (.int .i64 x) ∧ W.cell? ⟨w.heap.size, 1, none⟩ = some (.int .i64 y)) ∧ (W.cell? ⟨(w.heap.size + 1), 0, none⟩ = some (.int .i64 x) ∧ W.cell? ⟨(w.heap.size + 1), 1, none⟩ = some (.int .i64 y2)) ∧ (W.cell? ⟨(w.heap.size + 2), 0, none⟩ = some (.int .i64 x3) ∧ W.cell? ⟨(w.heap.size + 2), 1, none⟩ = some (.int .i64 y3))) (by kernel_rfl) (by kernel_rfl) (fun R hR => ?_)
          have q0 := (L0.out).drew
          have hHeld : (fun W : World => (W.cell? ⟨w.heap.size, 0, none⟩ = some (.int .i64 x) ∧ W.cell? ⟨w.heap.size, 1, none⟩ = some (.int .i64 y)) ∧ (W.cell? ⟨(w.heap.size + 1), 0, none⟩ = some (.int .i64 x) ∧ W.cell? ⟨(w.heap.size + 1), 1, none⟩ = some (.int .i64 y2)) ∧ (W.cell? ⟨(w.heap.size + 2), 0, none⟩ = some (.int .i64 x3) ∧ W.cell? ⟨(w.heap.size + 2), 1, none⟩ = some (.int .i64 y3))) _ := ⟨q0.cells (b := w.heap.size) (p := (x, y)) (by simp), q0.cells (b := (w.heap.size + 1)) (p := (x, y2)) (by simp), q0.cells (b := (w.heap.size + 2)) (p := (x3, y3)) (by simp)⟩
          replace q0 := Lib.hid q0
          repeat (first | (refine lex_take (v := ?_) rfl (by rfl) (by assumption) ?_ ?_; rotate_left 1; (focus (intro w hSw; (try dsimp only at hSw); go_simp; (try with_reducible rfl))); (try simp only [Act.put, List.setIfInBounds_toArray, List.set_cons_zero, List.set_cons_succ])) | (refine lex_pass rfl (by rfl) (by assumption) ?_; (try simp only [Act.put, List.setIfInBounds_toArray, List.set_cons_zero, List.set_cons_succ])))
          (refine lex_call rfl (by rfl) (fun K hq => ?_); go_simp)
          go_at_call 13
          refine (hAB.out _).mono ?_; rintro e v1 ⟨rfl, hb1⟩
          have q1 := Lay2.next q0.out hb1
          clear hHeld hb1 q0
          have hHeld : (fun W : World => (W.cell? ⟨w.heap.size, 0, none⟩ = some (.int .i64 x) ∧ W.cell? ⟨w.heap.size, 1, none⟩ = some (.int .i64 y)) ∧ (W.cell? ⟨(w.heap.size + 1), 0, none⟩ = some (.int .i64 x) ∧ W.cell? ⟨(w.heap.size + 1), 1, none⟩ = some (.int .i64 y2)) ∧ (W.cell? ⟨(w.heap.size + 2), 0, none⟩ = some (.int .i64 x3) ∧ W.cell? ⟨(w.heap.size + 2), 1, none⟩ = some (.int .i64 y3))) v1 := ⟨q1.cells (b := w.heap.size) (p := (x, y)) (by simp), q1.cells (b := (w.heap.size + 1)) (p := (x, y2)) (by simp), q1.cells (b := (w.heap.size + 2)) (p := (x3, y3)) (by simp)⟩
          replace q1 := Lib.hid q1
          go_wp2_with fail
          (refine hq.out _ _ (fun W : World => (W.cell? ⟨w.heap.size, 0, none⟩ = some (.int .i64 x) ∧ W.cell? ⟨w.heap.size, 1, none⟩ = some (.int .i64 y)) ∧ (W.cell? ⟨(w.heap.size + 1), 0, none⟩ = some (.int .i64 x) ∧ W.cell? ⟨(w.heap.size + 1), 1, none⟩ = some (.int .i64 y2)) ∧ (W.cell? ⟨(w.heap.size + 2), 0, none⟩ = some (.int .i64 x3) ∧ W.cell? ⟨(w.heap.size + 2), 1, none⟩ = some (.int .i64 y3))) (fun _ h => h) hHeld ?_; clear hq K; (try simp only [Act.put, List.setIfInBounds_toArray, List.set_cons_zero, List.set_cons_succ]))
          repeat (first | (refine lex_take (v := ?_) rfl (by rfl) (by assumption) ?_ ?_; rotate_left 1; (focus (intro w hSw; (try dsimp only at hSw); go_simp; (try with_reducible rfl))); (try simp only [Act.put, List.setIfInBounds_toArray, List.set_cons_zero, List.set_cons_succ])) | (refine lex_pass rfl (by rfl) (by assumption) ?_; (try simp only [Act.put, List.setIfInBounds_toArray, List.set_cons_zero, List.set_cons_succ])))
          (refine lex_call rfl (by rfl) (fun K hq => ?_); go_simp)
          go_at_call 13
          refine (hAB.out _).mono ?_; rintro e v2 ⟨rfl, hb2⟩
          have q2 := Lay2.next q1.out hb2
          clear hHeld hb2 q1
          have hHeld : (fun W : World => (W.cell? ⟨w.heap.size, 0, none⟩ = some (.int .i64 x) ∧ W.cell? ⟨w.heap.size, 1, none⟩ = some (.int .i64 y)) ∧ (W.cell? ⟨(w.heap.size + 1), 0, none⟩ = some (.int .i64 x) ∧ W.cell? ⟨(w.heap.size + 1), 1, none⟩ = some (.int .i64 y2)) ∧ (W.cell? ⟨(w.heap.size + 2), 0, none⟩ = some (.int .i64 x3) ∧ W.cell? ⟨(w.heap.size + 2), 1, none⟩ = some (.int .i64 y3))) v2 := ⟨q2.cells (b := w.heap.size) (p := (x, y)) (by simp), q2.cells (b := (w.heap.size + 1)) (p := (x, y2)) (by simp), q2.cells (b := (w.heap.size + 2)) (p := (x3, y3)) (by simp)⟩
          replace q2 := Lib.hid q2
          go_wp2_with fail
          (refine hq.out _ _ (fun W : World => (W.cell? ⟨w.heap.size, 0, none⟩ = some (.int .i64 x) ∧ W.cell? ⟨w.heap.size, 1, none⟩ = some (.int .i64 y)) ∧ (W.cell? ⟨(w.heap.size + 1), 0, none⟩ = some (.int .i64 x) ∧ W.cell? ⟨(w.heap.size + 1), 1, none⟩ = some (.int .i64 y2)) ∧ (W.cell? ⟨(w.heap.size + 2), 0, none⟩ = some (.int .i64 x3) ∧ W.cell? ⟨(w.heap.size + 2), 1, none⟩ = some (.int .i64 y3))) (fun _ h => h) hHeld ?_; clear hq K; (try simp only [Act.put, List.setIfInBounds_toArray, List.set_cons_zero, List.set_cons_succ]))
          repeat (first | (refine lex_take (v := ?_) rfl (by rfl) (by assumption) ?_ ?_; rotate_left 1; (focus (intro w hSw; (try dsimp only at hSw); go_simp; (try with_reducible rfl))); (try simp only [Act.put, List.setIfInBounds_toArray, List.set_cons_zero, List.set_cons_succ])) | (refine lex_pass rfl (by rfl) (by assumption) ?_; (try simp only [Act.put, List.setIfInBounds_toArray, List.set_cons_zero, List.set_cons_succ])))
          (refine lex_call rfl (by rfl) (fun K hq => ?_); go_simp)
          go_at_call 13
          refine (hBA.out _).mono ?_; rintro e v3 ⟨rfl, hb3⟩
          have q3 := Lay2.next q2.out hb3
          clear hHeld hb3 q2
          have hHeld : (fun W : World => (W.cell? ⟨w.heap.size, 0, none⟩ = some (.int .i64 x) ∧ W.cell? ⟨w.heap.size, 1, none⟩ = some (.int .i64 y)) ∧ (W.cell? ⟨(w.heap.size + 1), 0, none⟩ = some (.int .i64 x) ∧ W.cell? ⟨(w.heap.size + 1), 1, none⟩ = some (.int .i64 y2)) ∧ (W.cell? ⟨(w.heap.size + 2), 0, none⟩ = some (.int .i64 x3) ∧ W.cell? ⟨(w.heap.size + 2), 1, none⟩ = some (.int .i64 y3))) v3 := ⟨q3.cells (b := w.heap.size) (p := (x, y)) (by simp), q3.cells (b := (w.heap.size + 1)) (p := (x, y2)) (by simp), q3.cells (b := (w.heap.size + 2)) (p := (x3, y3)) (by simp)⟩
          replace q3 := Lib.hid q3
          go_wp2_with fail
          (refine hq.out _ _ (fun W : World => (W.cell? ⟨w.heap.size, 0, none⟩ = some (.int .i64 x) ∧ W.cell? ⟨w.heap.size, 1, none⟩ = some (.int .i64 y)) ∧ (W.cell? ⟨(w.heap.size + 1), 0, none⟩ = some (.int .i64 x) ∧ W.cell? ⟨(w.heap.size + 1), 1, none⟩ = some (.int .i64 y2)) ∧ (W.cell? ⟨(w.heap.size + 2), 0, none⟩ = some (.int .i64 x3) ∧ W.cell? ⟨(w.heap.size + 2), 1, none⟩ = some (.int .i64 y3))) (fun _ h => h) hHeld ?_; clear hq K; (try simp only [Act.put, List.setIfInBounds_toArray, List.set_cons_zero, List.set_cons_succ]))
          repeat (first | (refine lex_take (v := ?_) rfl (by rfl) (by assumption) ?_ ?_; rotate_left 1; (focus (intro w hSw; (try dsimp only at hSw); go_simp; (try with_reducible rfl))); (try simp only [Act.put, List.setIfInBounds_toArray, List.set_cons_zero, List.set_cons_succ])) | (refine lex_pass rfl (by rfl) (by assumption) ?_; (try simp only [Act.put, List.setIfInBounds_toArray, List.set_cons_zero, List.set_cons_succ])))
          (refine lex_call rfl (by rfl) (fun K hq => ?_); go_simp)
          go_at_call 13
          refine (hAB.out _).mono ?_; rintro e v4 ⟨rfl, hb4⟩
          have q4 := Lay2.next q3.out hb4
          clear hHeld hb4 q3
          have hHeld : (fun W : World => (W.cell? ⟨w.heap.size, 0, none⟩ = some (.int .i64 x) ∧ W.cell? ⟨w.heap.size, 1, none⟩ = some (.int .i64 y)) ∧ (W.cell? ⟨(w.heap.size + 1), 0, none⟩ = some (.int .i64 x) ∧ W.cell? ⟨(w.heap.size + 1), 1, none⟩ = some (.int .i64 y2)) ∧ (W.cell? ⟨(w.heap.size + 2), 0, none⟩ = some (.int .i64 x3) ∧ W.cell? ⟨(w.heap.size + 2), 1, none⟩ = some (.int .i64 y3))) v4 := ⟨q4.cells (b := w.heap.size) (p := (x, y)) (by simp), q4.cells (b := (w.heap.size + 1)) (p := (x, y2)) (by simp), q4.cells (b := (w.heap.size + 2)) (p := (x3, y3)) (by simp)⟩
          replace q4 := Lib.hid q4
          go_wp2_with fail
          (refine hq.out _ _ (fun W : World => (W.cell? ⟨w.heap.size, 0, none⟩ = some (.int .i64 x) ∧ W.cell? ⟨w.heap.size, 1, none⟩ = some (.int .i64 y)) ∧ (W.cell? ⟨(w.heap.size + 1), 0, none⟩ = some (.int .i64 x) ∧ W.cell? ⟨(w.heap.size + 1), 1, none⟩ = some (.int .i64 y2)) ∧ (W.cell? ⟨(w.heap.size + 2), 0, none⟩ = some (.int .i64 x3) ∧ W.cell? ⟨(w.heap.size + 2), 1, none⟩ = some (.int .i64 y3))) (fun _ h => h) hHeld ?_; clear hq K; (try simp only [Act.put, List.setIfInBounds_toArray, List.set_cons_zero, List.set_cons_succ]))
          repeat (first | (refine lex_take (v := ?_) rfl (by rfl) (by assumption) ?_ ?_; rotate_left 1; (focus (intro w hSw; (try dsimp only at hSw); go_simp; (try with_reducible rfl))); (try simp only [Act.put, List.setIfInBounds_toArray, List.set_cons_zero, List.set_cons_succ])) | (refine lex_pass rfl (by rfl) (by assumption) ?_; (try simp only [Act.put, List.setIfInBounds_toArray, List.set_cons_zero, List.set_cons_succ])))
          (refine lex_call rfl (by rfl) (fun K hq => ?_); go_simp)
          go_at_call 13
          refine (hBC.out _).mono ?_; rintro e v5 ⟨rfl, hb5⟩
          have q5 := Lay2.next q4.out hb5
          clear hHeld hb5 q4
          have hHeld : (fun W : World => (W.cell? ⟨w.heap.size, 0, none⟩ = some (.int .i64 x) ∧ W.cell? ⟨w.heap.size, 1, none⟩ = some (.int .i64 y)) ∧ (W.cell? ⟨(w.heap.size + 1), 0, none⟩ = some (.int .i64 x) ∧ W.cell? ⟨(w.heap.size + 1), 1, none⟩ = some (.int .i64 y2)) ∧ (W.cell? ⟨(w.heap.size + 2), 0, none⟩ = some (.int .i64 x3) ∧ W.cell? ⟨(w.heap.size + 2), 1, none⟩ = some (.int .i64 y3))) v5 := ⟨q5.cells (b := w.heap.size) (p := (x, y)) (by simp), q5.cells (b := (w.heap.size + 1)) (p := (x, y2)) (by simp), q5.cells (b := (w.heap.size + 2)) (p := (x3, y3)) (by simp)⟩
          replace q5 := Lib.hid q5
          go_wp2_with fail
          (refine hq.out _ _ (fun W : World => (W.cell? ⟨w.heap.size, 0, none⟩ = some (.int .i64 x) ∧ W.cell? ⟨w.heap.size, 1, none⟩ = some (.int .i64 y)) ∧ (W.cell? ⟨(w.heap.size + 1), 0, none⟩ = some (.int .i64 x) ∧ W.cell? ⟨(w.heap.size + 1), 1, none⟩ = some (.int .i64 y2)) ∧ (W.cell? ⟨(w.heap.size + 2), 0, none⟩ = some (.int .i64 x3) ∧ W.cell? ⟨(w.heap.size + 2), 1, none⟩ = some (.int .i64 y3))) (fun _ h => h) hHeld ?_; clear hq K; (try simp only [Act.put, List.setIfInBounds_toArray, List.set_cons_zero, List.set_cons_succ]))
          repeat (first | (refine lex_take (v := ?_) rfl (by rfl) (by assumption) ?_ ?_; rotate_left 1; (focus (intro w hSw; (try dsimp only at hSw); go_simp; (try with_reducible rfl))); (try simp only [Act.put, List.setIfInBounds_toArray, List.set_cons_zero, List.set_cons_succ])) | (refine lex_pass rfl (by rfl) (by assumption) ?_; (try simp only [Act.put, List.setIfInBounds_toArray, List.set_cons_zero, List.set_cons_succ])))
          (refine lex_call rfl (by rfl) (fun K hq => ?_); go_simp)
          go_at_call 13
          refine (hAC.out _).mono ?_; rintro e v6 ⟨rfl, hb6⟩
          have q6 := Lay2.next q5.out hb6
          clear hHeld hb6 q5
          have hHeld : (fun W : World => (W.cell? ⟨w.heap.size, 0, none⟩ = some (.int .i64 x) ∧ W.cell? ⟨w.heap.size, 1, none⟩ = some (.int .i64 y)) ∧ (W.cell? ⟨(w.heap.size + 1), 0, none⟩ = some (.int .i64 x) ∧ W.cell? ⟨(w.heap.size + 1), 1, none⟩ = some (.int .i64 y2)) ∧ (W.cell? ⟨(w.heap.size + 2), 0, none⟩ = some (.int .i64 x3) ∧ W.cell? ⟨(w.heap.size + 2), 1, none⟩ = some (.int .i64 y3))) v6 := ⟨q6.cells (b := w.heap.size) (p := (x, y)) (by simp), q6.cells (b := (w.heap.size + 1)) (p := (x, y2)) (by simp), q6.cells (b := (w.heap.size + 2)) (p := (x3, y3)) (by simp)⟩
          replace q6 := Lib.hid q6
          go_wp2_with fail
          (refine hq.out _ _ (fun W : World => (W.cell? ⟨w.heap.size, 0, none⟩ = some (.int .i64 x) ∧ W.cell? ⟨w.heap.size, 1, none⟩ = some (.int .i64 y)) ∧ (W.cell? ⟨(w.heap.size + 1), 0, none⟩ = some (.int .i64 x) ∧ W.cell? ⟨(w.heap.size + 1), 1, none⟩ = some (.int .i64 y2)) ∧ (W.cell? ⟨(w.heap.size + 2), 0, none⟩ = some (.int .i64 x3) ∧ W.cell? ⟨(w.heap.size + 2), 1, none⟩ = some (.int .i64 y3))) (fun _ h => h) hHeld ?_; clear hq K; (try simp only [Act.put, List.setIfInBounds_toArray, List.set_cons_zero, List.set_cons_succ]))
          repeat (first | (refine lex_take (v := ?_) rfl (by rfl) (by assumption) ?_ ?_; rotate_left 1; (focus (intro w hSw; (try dsimp only at hSw); go_simp; (try with_reducible rfl))); (try simp only [Act.put, List.setIfInBounds_toArray, List.set_cons_zero, List.set_cons_succ])) | (refine lex_pass rfl (by rfl) (by assumption) ?_; (try simp only [Act.put, List.setIfInBounds_toArray, List.set_cons_zero, List.set_cons_succ])))
          refine lex_end ?_
          refine hR.out _ _ ?_
          clear hR R
          have L1 := q6
          clear q6
          go_upto_region 3 with fail
          obtain ⟨x0, x1⟩ := L1.out.cells (b := w.heap.size) (p := (x, y)) (by simp)
          go_wp2_with fail
          refine (hPa.out _ L1.out.below).mono ?_; rintro e w2 ⟨rfl, hb⟩
          have L2 := L1.out.next hb
          replace L2 := Lib.hid L2
          clear hb x0 x1
          go_wp2_with fail
          refine (hPs.out _ L2.out.below).mono ?_; rintro e w3 ⟨v, rfl, hv, hb⟩
          have L3 := L2.out.next hb
          clear hb
          obtain ⟨_, rfl⟩ := hv.resolve_right (fun h => h.1 rfl)
          clear hv
          replace L3 := Lib.hid L3
          go_upto_region 4 with fail
          refine worldI (α := fun W' => Code.wp _ _ _ _ W') (Lay2 w sv ((w3.heap.size, (x, y)) :: [(w.heap.size, (x, y)), (w.heap.size + 1, (x, y2)), (w.heap.size + 2, (x3, y3))]) .nilIface [] 0) (L3.out.add x y) fun W4 L4 => ?_
          obtain ⟨x0, x1⟩ := L4.cells (b := w.heap.size) (p := (x, y)) (by simp)
          replace L4 := Lib.hid L4
          go_wp2_with fail
          refine (hRx.out _).mono ?_; rintro e w6 ⟨rfl, hb⟩
          have L6 := L4.out.next hb
          clear hb x0 x1
          obtain ⟨x0, x1⟩ := L6.cells (b := w.heap.size) (p := (x, y)) (by simp)
          obtain ⟨z0, z1⟩ := L6.cells (b := w3.heap.size) (p := (x, y)) (by simp)
          replace L6 := Lib.hid L6
          go_wp2_with fail
          refine (hRx.out _).mono ?_; rintro e w5 ⟨rfl, hb⟩
          have L5 := L6.out.next hb
          clear hb x0 x1 z0 z1
          replace L5 := Lib.hid L5
          go_upto_region 6 with fail
          refine wp_region_lex [(true, 0), (true, 2), (true, 5), (true, 6), (true, 7), (false, 1), (false, 3), (true, 4), (true, 8), (true, 9), (false, 10), (true, 11), (true, 12)] (fun W : World => (W.cell? ⟨w.heap.size, 0, none⟩ = some (.int .i64 x) ∧ W.cell? ⟨w.heap.size, 1, none⟩ = some (.int .i64 y)) ∧ (W.cell? ⟨(w.heap.size + 1), 0, none⟩ = some (.int .i64 x) ∧ W.cell? ⟨(w.heap.size + 1), 1, none⟩ = some (.int .i64 y2))) (by kernel_rfl) (by kernel_rfl) (fun R hR => ?_)
          have q0 := (L5.out).drew
          have hHeld : (fun W : World => (W.cell? ⟨w.heap.size, 0, none⟩ = some (.int .i64 x) ∧ W.cell? ⟨w.heap.size, 1, none⟩ = some (.int .i64 y)) ∧ (W.cell? ⟨(w.heap.size + 1), 0, none⟩ = some (.int .i64 x) ∧ W.cell? ⟨(w.heap.size + 1), 1, none⟩ = some (.int .i64 y2))) _ := ⟨q0.cells (b := w.heap.size) (p := (x, y)) (by simp), q0.cells (b := (w.heap.size + 1)) (p := (x, y2)) (by simp)⟩
          replace q0 := Lib.hid q0
          repeat (first | (refine lex_take (v := ?_) rfl (by rfl) (by assumption) ?_ ?_; rotate_left 1; (focus (intro w hSw; (try dsimp only at hSw); go_simp; (try with_reducible rfl))); (try simp only [Act.put, List.setIfInBounds_toArray, List.set_cons_zero, List.set_cons_succ])) | (refine lex_pass rfl (by rfl) (by assumption) ?_; (try simp only [Act.put, List.setIfInBounds_toArray, List.set_cons_zero, List.set_cons_succ])))
          (refine lex_call rfl (by rfl) (fun K hq => ?_); go_simp)
          go_at_call 15
          refine (hPa.out _ q0.out.below).mono ?_; rintro e v1 ⟨rfl, hb1⟩
          have q1 := Lay2.next q0.out hb1
          clear hHeld hb1 q0
          have hHeld : (fun W : World => (W.cell? ⟨w.heap.size, 0, none⟩ = some (.int .i64 x) ∧ W.cell? ⟨w.heap.size, 1, none⟩ = some (.int .i64 y)) ∧ (W.cell? ⟨(w.heap.size + 1), 0, none⟩ = some (.int .i64 x) ∧ W.cell? ⟨(w.heap.size + 1), 1, none⟩ = some (.int .i64 y2))) v1 := ⟨q1.cells (b := w.heap.size) (p := (x, y)) (by simp), q1.cells (b := (w.heap.size + 1)) (p := (x, y2)) (by simp)⟩
          replace q1 := Lib.hid q1
          go_wp2_with fail
          (refine hq.out _ _ (fun W : World => (W.cell? ⟨w.heap.size, 0, none⟩ = some (.int .i64 x) ∧ W.cell? ⟨w.heap.size, 1, none⟩ = some (.int .i64 y)) ∧ (W.cell? ⟨(w.heap.size + 1), 0, none⟩ = some (.int .i64 x) ∧ W.cell? ⟨(w.heap.size + 1), 1, none⟩ = some (.int .i64 y2))) (fun _ h => h) hHeld ?_; clear hq K; (try simp only [Act.put, List.setIfInBounds_toArray, List.set_cons_zero, List.set_cons_succ]))
          repeat (first | (refine lex_take (v := ?_) rfl (by rfl) (by assumption) ?_ ?_; rotate_left 1; (focus (intro w hSw; (try dsimp only at hSw); go_simp; (try with_reducible rfl))); (try simp only [Act.put, List.setIfInBounds_toArray, List.set_cons_zero, List.set_cons_succ])) | (refine lex_pass rfl (by rfl) (by assumption) ?_; (try simp only [Act.put, List.setIfInBounds_toArray, List.set_cons_zero, List.set_cons_succ])))
          (refine lex_call rfl (by rfl) (fun K hq => ?_); go_simp)
          go_at_call 15
          refine (hPb.out _ q1.out.below).mono ?_; rintro e v2 ⟨rfl, hb2⟩
          have q2 := Lay2.next q1.out hb2
          clear hHeld hb2 q1
          have hHeld : (fun W : World => (W.cell? ⟨w.heap.size, 0, none⟩ = some (.int .i64 x) ∧ W.cell? ⟨w.heap.size, 1, none⟩ = some (.int .i64 y)) ∧ (W.cell? ⟨(w.heap.size + 1), 0, none⟩ = some (.int .i64 x) ∧ W.cell? ⟨(w.heap.size + 1), 1, none⟩ = some (.int .i64 y2))) v2 := ⟨q2.cells (b := w.heap.size) (p := (x, y)) (by simp), q2.cells (b := (w.heap.size + 1)) (p := (x, y2)) (by simp)⟩
          replace q2 := Lib.hid q2
          go_wp2_with fail
          (refine hq.out _ _ (fun W : World => (W.cell? ⟨w.heap.size, 0, none⟩ = some (.int .i64 x) ∧ W.cell? ⟨w.heap.size, 1, none⟩ = some (.int .i64 y)) ∧ (W.cell? ⟨(w.heap.size + 1), 0, none⟩ = some (.int .i64 x) ∧ W.cell? ⟨(w.heap.size + 1), 1, none⟩ = some (.int .i64 y2))) (fun _ h => h) hHeld ?_; clear hq K; (try simp only [Act.put, List.setIfInBounds_toArray, List.set_cons_zero, List.set_cons_succ]))
          repeat (first | (refine lex_take (v := ?_) rfl (by rfl) (by assumption) ?_ ?_; rotate_left 1; (focus (intro w hSw; (try dsimp only at hSw); go_simp; (try with_reducible rfl))); (try simp only [Act.put, List.setIfInBounds_toArray, List.set_cons_zero, List.set_cons_succ])) | (refine lex_pass rfl (by rfl) (by assumption) ?_; (try simp only [Act.put, List.setIfInBounds_toArray, List.set_cons_zero, List.set_cons_succ])))
          (refine lex_call rfl (by rfl) (fun K hq => ?_); go_simp)
          go_at_call 8
          refine (hAw.out _ q2.out.below).mono ?_; rintro e v3 ⟨rfl, hb3⟩
          have q3 := Lay2.next q2.out hb3
          clear hHeld hb3 q2
          have hHeld : (fun W : World => (W.cell? ⟨w.heap.size, 0, none⟩ = some (.int .i64 x) ∧ W.cell? ⟨w.heap.size, 1, none⟩ = some (.int .i64 y)) ∧ (W.cell? ⟨(w.heap.size + 1), 0, none⟩ = some (.int .i64 x) ∧ W.cell? ⟨(w.heap.size + 1), 1, none⟩ = some (.int .i64 y2))) v3 := ⟨q3.cells (b := w.heap.size) (p := (x, y)) (by simp), q3.cells (b := (w.heap.size + 1)) (p := (x, y2)) (by simp)⟩
          replace q3 := Lib.hid q3
          go_wp2_with fail
          (refine hq.out _ _ (fun W : World => (W.cell? ⟨w.heap.size, 0, none⟩ = some (.int .i64 x) ∧ W.cell? ⟨w.heap.size, 1, none⟩ = some (.int .i64 y)) ∧ (W.cell? ⟨(w.heap.size + 1), 0, none⟩ = some (.int .i64 x) ∧ W.cell? ⟨(w.heap.size + 1), 1, none⟩ = some (.int .i64 y2))) (fun _ h => h) hHeld ?_; clear hq K; (try simp only [Act.put, List.setIfInBounds_toArray, List.set_cons_zero, List.set_cons_succ]))
          repeat (first | (refine lex_take (v := ?_) rfl (by rfl) (by assumption) ?_ ?_; rotate_left 1; (focus (intro w hSw; (try dsimp only at hSw); go_simp; (try with_reducible rfl))); (try simp only [Act.put, List.setIfInBounds_toArray, List.set_cons_zero, List.set_cons_succ])) | (refine lex_pass rfl (by rfl) (by assumption) ?_; (try simp only [Act.put, List.setIfInBounds_toArray, List.set_cons_zero, List.set_cons_succ])))
          refine lex_end ?_
          refine hR.out _ _ ?_
          clear hR R
          go_wp2_with fail
          go_ret
          exact ⟨rfl, q3.out.below⟩
end Go.Proofs.YtpkkjoiglemlgaaGreatDoor
