/-
  The law ActTexts (layer 18), where the table of powers lies. No condition. (Printed by tools/act18.py.)
-/
import Derived.Test.YtmifgjkikbgmiaaDoorActV
import Derived.Test.YtmifgjkikbgmiaaDoorLexH
import Derived.Deep.Cut
namespace Go.Proofs.YtmifgjkikbgmiaaDoor
set_option linter.unusedVariables false
open Go.RowKit Go.Extern.Stop Go.Stop Go.Extern Go.ChangeShapes

def PAct.cells (x : PAct) : Array Value := #[.int .i64 x.kind, .int .u64 x.block, .int .i64 x.cell, .int .u64 x.old, .int .u64 x.new, .string x.text]
theorem first_diff {x y : PAct} (h : x ≠ y) : x.kind ≠ y.kind ∨ (x.kind = y.kind ∧ x.block ≠ y.block) ∨ (x.kind = y.kind ∧ x.block = y.block ∧ x.cell ≠ y.cell) ∨ (x.kind = y.kind ∧ x.block = y.block ∧ x.cell = y.cell ∧ x.old ≠ y.old) ∨ (x.kind = y.kind ∧ x.block = y.block ∧ x.cell = y.cell ∧ x.old = y.old ∧ x.new ≠ y.new) ∨ (x.kind = y.kind ∧ x.block = y.block ∧ x.cell = y.cell ∧ x.old = y.old ∧ x.new = y.new ∧ x.text ≠ y.text) := by
  obtain ⟨k, b, c, o, n, t⟩ := x
  obtain ⟨k2, b2, c2, o2, n2, t2⟩ := y
  by_cases h1 : k = k2
  · by_cases h2 : b = b2
    · by_cases h3 : c = c2
      · by_cases h4 : o = o2
        · by_cases h5 : n = n2
          · by_cases h6 : t = t2
            · exact absurd (by rw [h1, h2, h3, h4, h5, h6]) h
            · exact .inr (.inr (.inr (.inr (.inr ⟨h1, h2, h3, h4, h5, h6⟩))))
          · exact .inr (.inr (.inr (.inr (.inl ⟨h1, h2, h3, h4, h5⟩))))
        · exact .inr (.inr (.inr (.inl ⟨h1, h2, h3, h4⟩)))
      · exact .inr (.inr (.inl ⟨h1, h2, h3⟩))
    · exact .inr (.inl ⟨h1, h2⟩)
  · exact .inl h1
theorem toList_ne {s t : ByteArray} (h : s ≠ t) : ¬ s.toList = t.toList := fun e => h (ba_ext (by rw [ByteArray.toList_eq, ByteArray.toList_eq] at e; exact e))
set_option maxRecDepth 100000 in
set_option maxHeartbeats 2000000 in
theorem actTexts_any {w : World} (htab : PTb w) (x y : PAct) (hx : x.Ok) (hy : y.Ok) : Calls Tryd.prog 3 #[x.val, y.val] w fun e w' => e = .returned (.bool true) ∧ Below w.heap.size w w' := by
  have hA := fun W (h : Below w.heap.size w W) => awake18 W (htab.below h)
  have hx0 : Below w.heap.size w ((w.alloc (.cells x.cells 24)).alloc (.cells y.cells 24)) := ((Below.refl _ _).alloc (Nat.le_refl _) _).alloc (by simp) _
  have P1 := fun (ht : x.text.size ≤ 200) W (h : Below w.heap.size w W) => actText_any x hx (by omega) W (htab.below h)
  have P2 := fun (ht : x.text.size ≤ 200) W => refActText_any x hx (by omega) W
  have P3 := fun (ht : y.text.size ≤ 200) W (h : Below w.heap.size w W) => actText_any y hy (by omega) W (htab.below h)
  have R1 := fun W => right_any x W hx.text
  have R2 := fun W => right_any y W hy.text
  have hinj := act_inj hx hy
  have hdiff := first_diff (x := x) (y := y)
  have hxt : x.text.size ≤ 9223372036854775807 := hx.text
  have hyt : y.text.size ≤ 9223372036854775807 := hy.text
  have BX := (Blk.new w 24 x.cells).alloc (.cells y.cells 24)
  have BY := Blk.new (w.alloc (.cells x.cells 24)) 24 y.cells
  rw [show (w.alloc (.cells x.cells 24)).heap.size = w.heap.size + 1 by simp] at BY
  have hinj2 : x.right = true → y.right = true → x ≠ y → bs (actText x) ≠ bs (actText y) := fun h1 h2 h3 h4 => h3 (hinj h1 h2 (by
    have := congrArg (fun s : ByteArray => s.data.toList) h4
    rwa [list_bs, list_bs] at this))
  have heq : x = y → bs (actText x) = bs (actText y) := fun h => by rw [h]
  obtain ⟨rx, hrx⟩ : ∃ r, x.right = r := ⟨_, rfl⟩
  obtain ⟨ry, hry⟩ : ∃ r, y.right = r := ⟨_, rfl⟩
  rw [hrx] at R1 hinj2
  rw [hry] at R2 hinj2
  generalize bs (actText x) = TX at *
  generalize bs (actText y) = TY at *
  clear htab hinj hrx hry
  obtain ⟨k, b, c, o, n, t⟩ := x
  obtain ⟨k2, b2, c2, o2, n2, t2⟩ := y
  simp only [PAct.cells, PAct.val] at *
  clear hx hy
  replace hA := Lib.hid hA
  replace hx0 := Lib.hid hx0
  replace P1 := Lib.hid P1
  replace P2 := Lib.hid P2
  replace P3 := Lib.hid P3
  replace R1 := Lib.hid R1
  replace R2 := Lib.hid R2
  replace hinj2 := Lib.hid hinj2
  replace heq := Lib.hid heq
  replace hdiff := Lib.hid hdiff
  have x0 := BX.cell 0
  have x1 := BX.cell 1
  have x2 := BX.cell 2
  have x3 := BX.cell 3
  have x4 := BX.cell 4
  have x5 := BX.cell 5
  have y0 := BY.cell 0
  have y1 := BY.cell 1
  have y2 := BY.cell 2
  have y3 := BY.cell 3
  have y4 := BY.cell 4
  have y5 := BY.cell 5
  replace BX := Lib.hid BX
  replace BY := Lib.hid BY
  by_cases ht : 200 < t.size
  · go_enter Tryd.func3, Tryd.ntmps3
    go_wp2_with fail
    refine (hA.out _ hx0.out).mono ?_; rintro e w1 ⟨rfl, hb⟩
    go_wp2_with fail
    go_ret
    exact ⟨rfl, Below.next_ hx0.out hb⟩
  · by_cases ht2 : 200 < t2.size
    · go_enter Tryd.func3, Tryd.ntmps3
      go_wp2_with fail
      refine (hA.out _ hx0.out).mono ?_; rintro e w1 ⟨rfl, hb⟩
      go_wp2_with fail
      go_ret
      exact ⟨rfl, Below.next_ hx0.out hb⟩
    · replace P1 := Lib.hid (P1.out (show t.size ≤ 200 by omega))
      replace P2 := Lib.hid (P2.out (show t.size ≤ 200 by omega))
      replace P3 := Lib.hid (P3.out (show t2.size ≤ 200 by omega))
      go_enter Tryd.func3, Tryd.ntmps3
      go_upto_region 3 with fail
      refine wp_region_lex [(true, 0), (true, 2), (false, 1), (false, 3), (true, 4)] (fun W : World => W.cell? ⟨w.heap.size, 0, none⟩ = some (.int .i64 k) ∧ W.cell? ⟨w.heap.size, 1, none⟩ = some (.int .u64 b) ∧ W.cell? ⟨w.heap.size, 2, none⟩ = some (.int .i64 c) ∧ W.cell? ⟨w.heap.size, 3, none⟩ = some (.int .u64 o) ∧ W.cell? ⟨w.heap.size, 4, none⟩ = some (.int .u64 n) ∧ W.cell? ⟨w.heap.size, 5, none⟩ = some (.string t)) (by kernel_rfl) (by kernel_rfl) (fun R hR => ?_)
      have hHeld : (fun W : World => W.cell? ⟨w.heap.size, 0, none⟩ = some (.int .i64 k) ∧ W.cell? ⟨w.heap.size, 1, none⟩ = some (.int .u64 b) ∧ W.cell? ⟨w.heap.size, 2, none⟩ = some (.int .i64 c) ∧ W.cell? ⟨w.heap.size, 3, none⟩ = some (.int .u64 o) ∧ W.cell? ⟨w.heap.size, 4, none⟩ = some (.int .u64 n) ∧ W.cell? ⟨w.heap.size, 5, none⟩ = some (.string t)) ((w.alloc (.cells #[.int .i64 k, .int .u64 b, .int .i64 c, .int .u64 o, .int .u64 n, .string t] 24)).alloc (.cells #[.int .i64 k2, .int .u64 b2, .int .i64 c2, .int .u64 o2, .int .u64 n2, .string t2] 24)).drew := ⟨x0, x1, x2, x3, x4, x5⟩
      have q0 := hx0.out.drew
      clear x0 x1 x2 x3 x4 x5 y0 y1 y2 y3 y4 y5
      repeat (refine lex_take (v := ?_) rfl (by rfl) (by assumption) ?_ ?_; rotate_left 1; (focus (intro w hSw; (try dsimp only at hSw); go_simp; (try with_reducible rfl))); (try simp only [Act.put, List.setIfInBounds_toArray, List.set_cons_zero, List.set_cons_succ]))
      (refine lex_call rfl (by rfl) (fun K hq => ?_); go_simp)
      go_at_call 5
      refine (P1.out _ q0).mono ?_; rintro e w3 ⟨rfl, hb3⟩
      have BX3 := BX.out.drew.below hb3 BX.out.lt
      have BY3 := BY.out.drew.below hb3 BY.out.lt
      clear hHeld
      have hHeld : (fun W : World => W.cell? ⟨w.heap.size, 0, none⟩ = some (.int .i64 k) ∧ W.cell? ⟨w.heap.size, 1, none⟩ = some (.int .u64 b) ∧ W.cell? ⟨w.heap.size, 2, none⟩ = some (.int .i64 c) ∧ W.cell? ⟨w.heap.size, 3, none⟩ = some (.int .u64 o) ∧ W.cell? ⟨w.heap.size, 4, none⟩ = some (.int .u64 n) ∧ W.cell? ⟨w.heap.size, 5, none⟩ = some (.string t)) w3 := ⟨BX3.cell 0, BX3.cell 1, BX3.cell 2, BX3.cell 3, BX3.cell 4, BX3.cell 5⟩
      have q3 := Below.next_ q0 hb3
      replace BX3 := Lib.hid BX3
      replace BY3 := Lib.hid BY3
      clear hb3 q0
      go_wp2_with fail
      (refine hq.out _ _ (fun W : World => W.cell? ⟨w.heap.size, 0, none⟩ = some (.int .i64 k) ∧ W.cell? ⟨w.heap.size, 1, none⟩ = some (.int .u64 b) ∧ W.cell? ⟨w.heap.size, 2, none⟩ = some (.int .i64 c) ∧ W.cell? ⟨w.heap.size, 3, none⟩ = some (.int .u64 o) ∧ W.cell? ⟨w.heap.size, 4, none⟩ = some (.int .u64 n) ∧ W.cell? ⟨w.heap.size, 5, none⟩ = some (.string t)) (fun _ h => h) hHeld ?_; clear hq K; (try simp only [Act.put, List.setIfInBounds_toArray, List.set_cons_zero, List.set_cons_succ]))
      repeat (refine lex_take (v := ?_) rfl (by rfl) (by assumption) ?_ ?_; rotate_left 1; (focus (intro w hSw; (try dsimp only at hSw); go_simp; (try with_reducible rfl))); (try simp only [Act.put, List.setIfInBounds_toArray, List.set_cons_zero, List.set_cons_succ]))
      (refine lex_call rfl (by rfl) (fun K hq => ?_); go_simp)
      go_at_call 6
      refine (P2.out _).mono ?_; rintro e w4 ⟨rfl, hb4⟩
      have BX4 := BX3.out.below hb4 BX3.out.lt
      have BY4 := BY3.out.below hb4 BY3.out.lt
      clear hHeld
      have hHeld : (fun W : World => W.cell? ⟨w.heap.size, 0, none⟩ = some (.int .i64 k) ∧ W.cell? ⟨w.heap.size, 1, none⟩ = some (.int .u64 b) ∧ W.cell? ⟨w.heap.size, 2, none⟩ = some (.int .i64 c) ∧ W.cell? ⟨w.heap.size, 3, none⟩ = some (.int .u64 o) ∧ W.cell? ⟨w.heap.size, 4, none⟩ = some (.int .u64 n) ∧ W.cell? ⟨w.heap.size, 5, none⟩ = some (.string t)) w4 := ⟨BX4.cell 0, BX4.cell 1, BX4.cell 2, BX4.cell 3, BX4.cell 4, BX4.cell 5⟩
      have q4 := Below.next_ q3 hb4
      replace BX4 := Lib.hid BX4
      replace BY4 := Lib.hid BY4
      clear hb4 q3 BX3 BY3 BX BY
      go_wp2_with fail
      (refine hq.out _ _ (fun W : World => W.cell? ⟨w.heap.size, 0, none⟩ = some (.int .i64 k) ∧ W.cell? ⟨w.heap.size, 1, none⟩ = some (.int .u64 b) ∧ W.cell? ⟨w.heap.size, 2, none⟩ = some (.int .i64 c) ∧ W.cell? ⟨w.heap.size, 3, none⟩ = some (.int .u64 o) ∧ W.cell? ⟨w.heap.size, 4, none⟩ = some (.int .u64 n) ∧ W.cell? ⟨w.heap.size, 5, none⟩ = some (.string t)) (fun _ h => h) hHeld ?_; clear hq K; (try simp only [Act.put, List.setIfInBounds_toArray, List.set_cons_zero, List.set_cons_succ]))
      repeat (refine lex_take (v := ?_) rfl (by rfl) (by assumption) ?_ ?_; rotate_left 1; (focus (intro w hSw; (try dsimp only at hSw); go_simp; (try with_reducible rfl))); (try simp only [Act.put, List.setIfInBounds_toArray, List.set_cons_zero, List.set_cons_succ]))
      refine lex_end ?_
      refine hR.out _ _ ?_
      clear hR R
      have hHeld : (fun W : World => W.cell? ⟨w.heap.size, 0, none⟩ = some (.int .i64 k) ∧ W.cell? ⟨w.heap.size, 1, none⟩ = some (.int .u64 b) ∧ W.cell? ⟨w.heap.size, 2, none⟩ = some (.int .i64 c) ∧ W.cell? ⟨w.heap.size, 3, none⟩ = some (.int .u64 o) ∧ W.cell? ⟨w.heap.size, 4, none⟩ = some (.int .u64 n) ∧ W.cell? ⟨w.heap.size, 5, none⟩ = some (.string t) ∧ W.cell? ⟨w.heap.size + 1, 0, none⟩ = some (.int .i64 k2) ∧ W.cell? ⟨w.heap.size + 1, 1, none⟩ = some (.int .u64 b2) ∧ W.cell? ⟨w.heap.size + 1, 2, none⟩ = some (.int .i64 c2) ∧ W.cell? ⟨w.heap.size + 1, 3, none⟩ = some (.int .u64 o2) ∧ W.cell? ⟨w.heap.size + 1, 4, none⟩ = some (.int .u64 n2) ∧ W.cell? ⟨w.heap.size + 1, 5, none⟩ = some (.string t2)) w4 := ⟨BX4.out.cell 0, BX4.out.cell 1, BX4.out.cell 2, BX4.out.cell 3, BX4.out.cell 4, BX4.out.cell 5, BY4.out.cell 0, BY4.out.cell 1, BY4.out.cell 2, BY4.out.cell 3, BY4.out.cell 4, BY4.out.cell 5⟩
      have hHeld4 := Lib.hid hHeld
      clear hHeld
      cases rx
      · clear hinj2 heq hdiff
        go_upto_region 5 with fail
        refine wp_region_lex [(true, 0), (false, 1), (true, 2), (true, 3), (false, 4), (true, 5), (true, 6), (true, 7), (true, 9), (true, 12), (true, 13), (true, 14), (false, 8), (false, 10), (true, 11), (true, 15), (true, 16)] (fun W : World => W.cell? ⟨w.heap.size, 0, none⟩ = some (.int .i64 k) ∧ W.cell? ⟨w.heap.size, 1, none⟩ = some (.int .u64 b) ∧ W.cell? ⟨w.heap.size, 2, none⟩ = some (.int .i64 c) ∧ W.cell? ⟨w.heap.size, 3, none⟩ = some (.int .u64 o) ∧ W.cell? ⟨w.heap.size, 4, none⟩ = some (.int .u64 n) ∧ W.cell? ⟨w.heap.size, 5, none⟩ = some (.string t) ∧ W.cell? ⟨w.heap.size + 1, 0, none⟩ = some (.int .i64 k2) ∧ W.cell? ⟨w.heap.size + 1, 1, none⟩ = some (.int .u64 b2) ∧ W.cell? ⟨w.heap.size + 1, 2, none⟩ = some (.int .i64 c2) ∧ W.cell? ⟨w.heap.size + 1, 3, none⟩ = some (.int .u64 o2) ∧ W.cell? ⟨w.heap.size + 1, 4, none⟩ = some (.int .u64 n2) ∧ W.cell? ⟨w.heap.size + 1, 5, none⟩ = some (.string t2)) (by kernel_rfl) (by kernel_rfl) (fun R hR => ?_)
        have hHeld : (fun W : World => W.cell? ⟨w.heap.size, 0, none⟩ = some (.int .i64 k) ∧ W.cell? ⟨w.heap.size, 1, none⟩ = some (.int .u64 b) ∧ W.cell? ⟨w.heap.size, 2, none⟩ = some (.int .i64 c) ∧ W.cell? ⟨w.heap.size, 3, none⟩ = some (.int .u64 o) ∧ W.cell? ⟨w.heap.size, 4, none⟩ = some (.int .u64 n) ∧ W.cell? ⟨w.heap.size, 5, none⟩ = some (.string t) ∧ W.cell? ⟨w.heap.size + 1, 0, none⟩ = some (.int .i64 k2) ∧ W.cell? ⟨w.heap.size + 1, 1, none⟩ = some (.int .u64 b2) ∧ W.cell? ⟨w.heap.size + 1, 2, none⟩ = some (.int .i64 c2) ∧ W.cell? ⟨w.heap.size + 1, 3, none⟩ = some (.int .u64 o2) ∧ W.cell? ⟨w.heap.size + 1, 4, none⟩ = some (.int .u64 n2) ∧ W.cell? ⟨w.heap.size + 1, 5, none⟩ = some (.string t2)) w4.drew := hHeld4.out
        have q5 := q4.drew
        have A5 := BX4.out.drew
        have B5 := BY4.out.drew
        clear hHeld4
        repeat (first | (refine lex_take (v := ?_) rfl (by rfl) (by assumption) ?_ ?_; rotate_left 1; (focus (intro w hSw; (try dsimp only at hSw); go_simp; (try with_reducible rfl))); (try simp only [Act.put, List.setIfInBounds_toArray, List.set_cons_zero, List.set_cons_succ])) | (refine lex_pass rfl (by rfl) (by assumption) ?_; (try simp only [Act.put, List.setIfInBounds_toArray, List.set_cons_zero, List.set_cons_succ])))
        (refine lex_call rfl (by rfl) (fun K hq => ?_); go_simp)
        go_at_call 7
        refine (R1.out _).mono ?_; rintro e w6 ⟨rfl, hb6⟩
        have A6 := A5.below hb6 A5.lt
        have B6 := B5.below hb6 B5.lt
        clear hHeld
        have hHeld : (fun W : World => W.cell? ⟨w.heap.size, 0, none⟩ = some (.int .i64 k) ∧ W.cell? ⟨w.heap.size, 1, none⟩ = some (.int .u64 b) ∧ W.cell? ⟨w.heap.size, 2, none⟩ = some (.int .i64 c) ∧ W.cell? ⟨w.heap.size, 3, none⟩ = some (.int .u64 o) ∧ W.cell? ⟨w.heap.size, 4, none⟩ = some (.int .u64 n) ∧ W.cell? ⟨w.heap.size, 5, none⟩ = some (.string t) ∧ W.cell? ⟨w.heap.size + 1, 0, none⟩ = some (.int .i64 k2) ∧ W.cell? ⟨w.heap.size + 1, 1, none⟩ = some (.int .u64 b2) ∧ W.cell? ⟨w.heap.size + 1, 2, none⟩ = some (.int .i64 c2) ∧ W.cell? ⟨w.heap.size + 1, 3, none⟩ = some (.int .u64 o2) ∧ W.cell? ⟨w.heap.size + 1, 4, none⟩ = some (.int .u64 n2) ∧ W.cell? ⟨w.heap.size + 1, 5, none⟩ = some (.string t2)) w6 := ⟨A6.cell 0, A6.cell 1, A6.cell 2, A6.cell 3, A6.cell 4, A6.cell 5, B6.cell 0, B6.cell 1, B6.cell 2, B6.cell 3, B6.cell 4, B6.cell 5⟩
        have q6 := Below.next_ q5 hb6
        clear hb6 A5 B5 q5
        go_wp2_with fail
        (refine hq.out _ _ (fun W : World => W.cell? ⟨w.heap.size, 0, none⟩ = some (.int .i64 k) ∧ W.cell? ⟨w.heap.size, 1, none⟩ = some (.int .u64 b) ∧ W.cell? ⟨w.heap.size, 2, none⟩ = some (.int .i64 c) ∧ W.cell? ⟨w.heap.size, 3, none⟩ = some (.int .u64 o) ∧ W.cell? ⟨w.heap.size, 4, none⟩ = some (.int .u64 n) ∧ W.cell? ⟨w.heap.size, 5, none⟩ = some (.string t) ∧ W.cell? ⟨w.heap.size + 1, 0, none⟩ = some (.int .i64 k2) ∧ W.cell? ⟨w.heap.size + 1, 1, none⟩ = some (.int .u64 b2) ∧ W.cell? ⟨w.heap.size + 1, 2, none⟩ = some (.int .i64 c2) ∧ W.cell? ⟨w.heap.size + 1, 3, none⟩ = some (.int .u64 o2) ∧ W.cell? ⟨w.heap.size + 1, 4, none⟩ = some (.int .u64 n2) ∧ W.cell? ⟨w.heap.size + 1, 5, none⟩ = some (.string t2)) (fun _ h => h) hHeld ?_; clear hq K; (try simp only [Act.put, List.setIfInBounds_toArray, List.set_cons_zero, List.set_cons_succ]))
        repeat (first | (refine lex_take (v := ?_) rfl (by rfl) (by assumption) ?_ ?_; rotate_left 1; (focus (intro w hSw; (try dsimp only at hSw); go_simp; (try with_reducible rfl))); (try simp only [Act.put, List.setIfInBounds_toArray, List.set_cons_zero, List.set_cons_succ])) | (refine lex_pass rfl (by rfl) (by assumption) ?_; (try simp only [Act.put, List.setIfInBounds_toArray, List.set_cons_zero, List.set_cons_succ])))
        refine lex_end ?_
        refine hR.out _ _ ?_
        clear hR R
        go_wp2_with fail
        refine (hA.out _ q6).mono ?_; rintro e w20 ⟨rfl, hb20⟩
        go_wp2_with fail
        go_ret
        exact ⟨rfl, Below.next_ q6 hb20⟩
      · cases ry
        · clear hinj2 heq hdiff
          go_upto_region 5 with fail
          refine wp_region_lex [(true, 0), (false, 1), (true, 2), (true, 3), (false, 4), (true, 5), (true, 6), (true, 7), (true, 9), (true, 12), (true, 13), (true, 14), (false, 8), (false, 10), (true, 11), (true, 15), (true, 16)] (fun W : World => W.cell? ⟨w.heap.size, 0, none⟩ = some (.int .i64 k) ∧ W.cell? ⟨w.heap.size, 1, none⟩ = some (.int .u64 b) ∧ W.cell? ⟨w.heap.size, 2, none⟩ = some (.int .i64 c) ∧ W.cell? ⟨w.heap.size, 3, none⟩ = some (.int .u64 o) ∧ W.cell? ⟨w.heap.size, 4, none⟩ = some (.int .u64 n) ∧ W.cell? ⟨w.heap.size, 5, none⟩ = some (.string t) ∧ W.cell? ⟨w.heap.size + 1, 0, none⟩ = some (.int .i64 k2) ∧ W.cell? ⟨w.heap.size + 1, 1, none⟩ = some (.int .u64 b2) ∧ W.cell? ⟨w.heap.size + 1, 2, none⟩ = some (.int .i64 c2) ∧ W.cell? ⟨w.heap.size + 1, 3, none⟩ = some (.int .u64 o2) ∧ W.cell? ⟨w.heap.size + 1, 4, none⟩ = some (.int .u64 n2) ∧ W.cell? ⟨w.heap.size + 1, 5, none⟩ = some (.string t2)) (by kernel_rfl) (by kernel_rfl) (fun R hR => ?_)
          have hHeld : (fun W : World => W.cell? ⟨w.heap.size, 0, none⟩ = some (.int .i64 k) ∧ W.cell? ⟨w.heap.size, 1, none⟩ = some (.int .u64 b) ∧ W.cell? ⟨w.heap.size, 2, none⟩ = some (.int .i64 c) ∧ W.cell? ⟨w.heap.size, 3, none⟩ = some (.int .u64 o) ∧ W.cell? ⟨w.heap.size, 4, none⟩ = some (.int .u64 n) ∧ W.cell? ⟨w.heap.size, 5, none⟩ = some (.string t) ∧ W.cell? ⟨w.heap.size + 1, 0, none⟩ = some (.int .i64 k2) ∧ W.cell? ⟨w.heap.size + 1, 1, none⟩ = some (.int .u64 b2) ∧ W.cell? ⟨w.heap.size + 1, 2, none⟩ = some (.int .i64 c2) ∧ W.cell? ⟨w.heap.size + 1, 3, none⟩ = some (.int .u64 o2) ∧ W.cell? ⟨w.heap.size + 1, 4, none⟩ = some (.int .u64 n2) ∧ W.cell? ⟨w.heap.size + 1, 5, none⟩ = some (.string t2)) w4.drew := hHeld4.out
          have q5 := q4.drew
          have A5 := BX4.out.drew
          have B5 := BY4.out.drew
          clear hHeld4
          repeat (first | (refine lex_take (v := ?_) rfl (by rfl) (by assumption) ?_ ?_; rotate_left 1; (focus (intro w hSw; (try dsimp only at hSw); go_simp; (try with_reducible rfl))); (try simp only [Act.put, List.setIfInBounds_toArray, List.set_cons_zero, List.set_cons_succ])) | (refine lex_pass rfl (by rfl) (by assumption) ?_; (try simp only [Act.put, List.setIfInBounds_toArray, List.set_cons_zero, List.set_cons_succ])))
          (refine lex_call rfl (by rfl) (fun K hq => ?_); go_simp)
          go_at_call 7
          refine (R1.out _).mono ?_; rintro e w6 ⟨rfl, hb6⟩
          have A6 := A5.below hb6 A5.lt
          have B6 := B5.below hb6 B5.lt
          clear hHeld
          have hHeld : (fun W : World => W.cell? ⟨w.heap.size, 0, none⟩ = some (.int .i64 k) ∧ W.cell? ⟨w.heap.size, 1, none⟩ = some (.int .u64 b) ∧ W.cell? ⟨w.heap.size, 2, none⟩ = some (.int .i64 c) ∧ W.cell? ⟨w.heap.size, 3, none⟩ = some (.int .u64 o) ∧ W.cell? ⟨w.heap.size, 4, none⟩ = some (.int .u64 n) ∧ W.cell? ⟨w.heap.size, 5, none⟩ = some (.string t) ∧ W.cell? ⟨w.heap.size + 1, 0, none⟩ = some (.int .i64 k2) ∧ W.cell? ⟨w.heap.size + 1, 1, none⟩ = some (.int .u64 b2) ∧ W.cell? ⟨w.heap.size + 1, 2, none⟩ = some (.int .i64 c2) ∧ W.cell? ⟨w.heap.size + 1, 3, none⟩ = some (.int .u64 o2) ∧ W.cell? ⟨w.heap.size + 1, 4, none⟩ = some (.int .u64 n2) ∧ W.cell? ⟨w.heap.size + 1, 5, none⟩ = some (.string t2)) w6 := ⟨A6.cell 0, A6.cell 1, A6.cell 2, A6.cell 3, A6.cell 4, A6.cell 5, B6.cell 0, B6.cell 1, B6.cell 2, B6.cell 3, B6.cell 4, B6.cell 5⟩
          have q6 := Below.next_ q5 hb6
          clear hb6 A5 B5 q5
          go_wp2_with fail
          (refine hq.out _ _ (fun W : World => W.cell? ⟨w.heap.size, 0, none⟩ = some (.int .i64 k) ∧ W.cell? ⟨w.heap.size, 1, none⟩ = some (.int .u64 b) ∧ W.cell? ⟨w.heap.size, 2, none⟩ = some (.int .i64 c) ∧ W.cell? ⟨w.heap.size, 3, none⟩ = some (.int .u64 o) ∧ W.cell? ⟨w.heap.size, 4, none⟩ = some (.int .u64 n) ∧ W.cell? ⟨w.heap.size, 5, none⟩ = some (.string t) ∧ W.cell? ⟨w.heap.size + 1, 0, none⟩ = some (.int .i64 k2) ∧ W.cell? ⟨w.heap.size + 1, 1, none⟩ = some (.int .u64 b2) ∧ W.cell? ⟨w.heap.size + 1, 2, none⟩ = some (.int .i64 c2) ∧ W.cell? ⟨w.heap.size + 1, 3, none⟩ = some (.int .u64 o2) ∧ W.cell? ⟨w.heap.size + 1, 4, none⟩ = some (.int .u64 n2) ∧ W.cell? ⟨w.heap.size + 1, 5, none⟩ = some (.string t2)) (fun _ h => h) hHeld ?_; clear hq K; (try simp only [Act.put, List.setIfInBounds_toArray, List.set_cons_zero, List.set_cons_succ]))
          repeat (first | (refine lex_take (v := ?_) rfl (by rfl) (by assumption) ?_ ?_; rotate_left 1; (focus (intro w hSw; (try dsimp only at hSw); go_simp; (try with_reducible rfl))); (try simp only [Act.put, List.setIfInBounds_toArray, List.set_cons_zero, List.set_cons_succ])) | (refine lex_pass rfl (by rfl) (by assumption) ?_; (try simp only [Act.put, List.setIfInBounds_toArray, List.set_cons_zero, List.set_cons_succ])))
          (refine lex_call rfl (by rfl) (fun K hq => ?_); go_simp)
          go_at_call 7
          refine (R2.out _).mono ?_; rintro e w7 ⟨rfl, hb7⟩
          have A7 := A6.below hb7 A6.lt
          have B7 := B6.below hb7 B6.lt
          clear hHeld
          have hHeld : (fun W : World => W.cell? ⟨w.heap.size, 0, none⟩ = some (.int .i64 k) ∧ W.cell? ⟨w.heap.size, 1, none⟩ = some (.int .u64 b) ∧ W.cell? ⟨w.heap.size, 2, none⟩ = some (.int .i64 c) ∧ W.cell? ⟨w.heap.size, 3, none⟩ = some (.int .u64 o) ∧ W.cell? ⟨w.heap.size, 4, none⟩ = some (.int .u64 n) ∧ W.cell? ⟨w.heap.size, 5, none⟩ = some (.string t) ∧ W.cell? ⟨w.heap.size + 1, 0, none⟩ = some (.int .i64 k2) ∧ W.cell? ⟨w.heap.size + 1, 1, none⟩ = some (.int .u64 b2) ∧ W.cell? ⟨w.heap.size + 1, 2, none⟩ = some (.int .i64 c2) ∧ W.cell? ⟨w.heap.size + 1, 3, none⟩ = some (.int .u64 o2) ∧ W.cell? ⟨w.heap.size + 1, 4, none⟩ = some (.int .u64 n2) ∧ W.cell? ⟨w.heap.size + 1, 5, none⟩ = some (.string t2)) w7 := ⟨A7.cell 0, A7.cell 1, A7.cell 2, A7.cell 3, A7.cell 4, A7.cell 5, B7.cell 0, B7.cell 1, B7.cell 2, B7.cell 3, B7.cell 4, B7.cell 5⟩
          have q7 := Below.next_ q6 hb7
          clear hb7 A6 B6 q6
          go_wp2_with fail
          (refine hq.out _ _ (fun W : World => W.cell? ⟨w.heap.size, 0, none⟩ = some (.int .i64 k) ∧ W.cell? ⟨w.heap.size, 1, none⟩ = some (.int .u64 b) ∧ W.cell? ⟨w.heap.size, 2, none⟩ = some (.int .i64 c) ∧ W.cell? ⟨w.heap.size, 3, none⟩ = some (.int .u64 o) ∧ W.cell? ⟨w.heap.size, 4, none⟩ = some (.int .u64 n) ∧ W.cell? ⟨w.heap.size, 5, none⟩ = some (.string t) ∧ W.cell? ⟨w.heap.size + 1, 0, none⟩ = some (.int .i64 k2) ∧ W.cell? ⟨w.heap.size + 1, 1, none⟩ = some (.int .u64 b2) ∧ W.cell? ⟨w.heap.size + 1, 2, none⟩ = some (.int .i64 c2) ∧ W.cell? ⟨w.heap.size + 1, 3, none⟩ = some (.int .u64 o2) ∧ W.cell? ⟨w.heap.size + 1, 4, none⟩ = some (.int .u64 n2) ∧ W.cell? ⟨w.heap.size + 1, 5, none⟩ = some (.string t2)) (fun _ h => h) hHeld ?_; clear hq K; (try simp only [Act.put, List.setIfInBounds_toArray, List.set_cons_zero, List.set_cons_succ]))
          repeat (first | (refine lex_take (v := ?_) rfl (by rfl) (by assumption) ?_ ?_; rotate_left 1; (focus (intro w hSw; (try dsimp only at hSw); go_simp; (try with_reducible rfl))); (try simp only [Act.put, List.setIfInBounds_toArray, List.set_cons_zero, List.set_cons_succ])) | (refine lex_pass rfl (by rfl) (by assumption) ?_; (try simp only [Act.put, List.setIfInBounds_toArray, List.set_cons_zero, List.set_cons_succ])))
          refine lex_end ?_
          refine hR.out _ _ ?_
          clear hR R
          go_wp2_with fail
          refine (hA.out _ q7).mono ?_; rintro e w20 ⟨rfl, hb20⟩
          go_wp2_with fail
          go_ret
          exact ⟨rfl, Below.next_ q7 hb20⟩
        · by_cases hxy : (⟨k, b, c, o, n, t⟩ : PAct) = ⟨k2, b2, c2, o2, n2, t2⟩
          · have he := heq.out hxy
            injection hxy with e1 e2 e3 e4 e5 e6
            subst e1 e2 e3 e4 e5 e6 he
            clear hinj2 heq hdiff
            go_upto_region 5 with fail
            refine wp_region_lex [(true, 0), (false, 1), (true, 2), (true, 3), (false, 4), (true, 5), (true, 6), (true, 7), (true, 9), (true, 12), (true, 13), (true, 14), (false, 8), (false, 10), (true, 11), (true, 15), (true, 16)] (fun W : World => W.cell? ⟨w.heap.size, 0, none⟩ = some (.int .i64 k) ∧ W.cell? ⟨w.heap.size, 1, none⟩ = some (.int .u64 b) ∧ W.cell? ⟨w.heap.size, 2, none⟩ = some (.int .i64 c) ∧ W.cell? ⟨w.heap.size, 3, none⟩ = some (.int .u64 o) ∧ W.cell? ⟨w.heap.size, 4, none⟩ = some (.int .u64 n) ∧ W.cell? ⟨w.heap.size, 5, none⟩ = some (.string t) ∧ W.cell? ⟨w.heap.size + 1, 0, none⟩ = some (.int .i64 k) ∧ W.cell? ⟨w.heap.size + 1, 1, none⟩ = some (.int .u64 b) ∧ W.cell? ⟨w.heap.size + 1, 2, none⟩ = some (.int .i64 c) ∧ W.cell? ⟨w.heap.size + 1, 3, none⟩ = some (.int .u64 o) ∧ W.cell? ⟨w.heap.size + 1, 4, none⟩ = some (.int .u64 n) ∧ W.cell? ⟨w.heap.size + 1, 5, none⟩ = some (.string t)) (by kernel_rfl) (by kernel_rfl) (fun R hR => ?_)
            have hHeld : (fun W : World => W.cell? ⟨w.heap.size, 0, none⟩ = some (.int .i64 k) ∧ W.cell? ⟨w.heap.size, 1, none⟩ = some (.int .u64 b) ∧ W.cell? ⟨w.heap.size, 2, none⟩ = some (.int .i64 c) ∧ W.cell? ⟨w.heap.size, 3, none⟩ = some (.int .u64 o) ∧ W.cell? ⟨w.heap.size, 4, none⟩ = some (.int .u64 n) ∧ W.cell? ⟨w.heap.size, 5, none⟩ = some (.string t) ∧ W.cell? ⟨w.heap.size + 1, 0, none⟩ = some (.int .i64 k) ∧ W.cell? ⟨w.heap.size + 1, 1, none⟩ = some (.int .u64 b) ∧ W.cell? ⟨w.heap.size + 1, 2, none⟩ = some (.int .i64 c) ∧ W.cell? ⟨w.heap.size + 1, 3, none⟩ = some (.int .u64 o) ∧ W.cell? ⟨w.heap.size + 1, 4, none⟩ = some (.int .u64 n) ∧ W.cell? ⟨w.heap.size + 1, 5, none⟩ = some (.string t)) w4.drew := hHeld4.out
            have q5 := q4.drew
            have A5 := BX4.out.drew
            have B5 := BY4.out.drew
            clear hHeld4
            repeat (first | (refine lex_take (v := ?_) rfl (by rfl) (by assumption) ?_ ?_; rotate_left 1; (focus (intro w hSw; (try dsimp only at hSw); go_simp; (try with_reducible rfl))); (try simp only [Act.put, List.setIfInBounds_toArray, List.set_cons_zero, List.set_cons_succ])) | (refine lex_pass rfl (by rfl) (by assumption) ?_; (try simp only [Act.put, List.setIfInBounds_toArray, List.set_cons_zero, List.set_cons_succ])))
            (refine lex_call rfl (by rfl) (fun K hq => ?_); go_simp)
            go_at_call 7
            refine (R1.out _).mono ?_; rintro e w6 ⟨rfl, hb6⟩
            have A6 := A5.below hb6 A5.lt
            have B6 := B5.below hb6 B5.lt
            clear hHeld
            have hHeld : (fun W : World => W.cell? ⟨w.heap.size, 0, none⟩ = some (.int .i64 k) ∧ W.cell? ⟨w.heap.size, 1, none⟩ = some (.int .u64 b) ∧ W.cell? ⟨w.heap.size, 2, none⟩ = some (.int .i64 c) ∧ W.cell? ⟨w.heap.size, 3, none⟩ = some (.int .u64 o) ∧ W.cell? ⟨w.heap.size, 4, none⟩ = some (.int .u64 n) ∧ W.cell? ⟨w.heap.size, 5, none⟩ = some (.string t) ∧ W.cell? ⟨w.heap.size + 1, 0, none⟩ = some (.int .i64 k) ∧ W.cell? ⟨w.heap.size + 1, 1, none⟩ = some (.int .u64 b) ∧ W.cell? ⟨w.heap.size + 1, 2, none⟩ = some (.int .i64 c) ∧ W.cell? ⟨w.heap.size + 1, 3, none⟩ = some (.int .u64 o) ∧ W.cell? ⟨w.heap.size + 1, 4, none⟩ = some (.int .u64 n) ∧ W.cell? ⟨w.heap.size + 1, 5, none⟩ = some (.string t)) w6 := ⟨A6.cell 0, A6.cell 1, A6.cell 2, A6.cell 3, A6.cell 4, A6.cell 5, B6.cell 0, B6.cell 1, B6.cell 2, B6.cell 3, B6.cell 4, B6.cell 5⟩
            have q6 := Below.next_ q5 hb6
            clear hb6 A5 B5 q5
            go_wp2_with fail
            (refine hq.out _ _ (fun W : World => W.cell? ⟨w.heap.size, 0, none⟩ = some (.int .i64 k) ∧ W.cell? ⟨w.heap.size, 1, none⟩ = some (.int .u64 b) ∧ W.cell? ⟨w.heap.size, 2, none⟩ = some (.int .i64 c) ∧ W.cell? ⟨w.heap.size, 3, none⟩ = some (.int .u64 o) ∧ W.cell? ⟨w.heap.size, 4, none⟩ = some (.int .u64 n) ∧ W.cell? ⟨w.heap.size, 5, none⟩ = some (.string t) ∧ W.cell? ⟨w.heap.size + 1, 0, none⟩ = some (.int .i64 k) ∧ W.cell? ⟨w.heap.size + 1, 1, none⟩ = some (.int .u64 b) ∧ W.cell? ⟨w.heap.size + 1, 2, none⟩ = some (.int .i64 c) ∧ W.cell? ⟨w.heap.size + 1, 3, none⟩ = some (.int .u64 o) ∧ W.cell? ⟨w.heap.size + 1, 4, none⟩ = some (.int .u64 n) ∧ W.cell? ⟨w.heap.size + 1, 5, none⟩ = some (.string t)) (fun _ h => h) hHeld ?_; clear hq K; (try simp only [Act.put, List.setIfInBounds_toArray, List.set_cons_zero, List.set_cons_succ]))
            repeat (first | (refine lex_take (v := ?_) rfl (by rfl) (by assumption) ?_ ?_; rotate_left 1; (focus (intro w hSw; (try dsimp only at hSw); go_simp; (try with_reducible rfl))); (try simp only [Act.put, List.setIfInBounds_toArray, List.set_cons_zero, List.set_cons_succ])) | (refine lex_pass rfl (by rfl) (by assumption) ?_; (try simp only [Act.put, List.setIfInBounds_toArray, List.set_cons_zero, List.set_cons_succ])))
            (refine lex_call rfl (by rfl) (fun K hq => ?_); go_simp)
            go_at_call 7
            refine (R2.out _).mono ?_; rintro e w7 ⟨rfl, hb7⟩
            have A7 := A6.below hb7 A6.lt
            have B7 := B6.below hb7 B6.lt
            clear hHeld
            have hHeld : (fun W : World => W.cell? ⟨w.heap.size, 0, none⟩ = some (.int .i64 k) ∧ W.cell? ⟨w.heap.size, 1, none⟩ = some (.int .u64 b) ∧ W.cell? ⟨w.heap.size, 2, none⟩ = some (.int .i64 c) ∧ W.cell? ⟨w.heap.size, 3, none⟩ = some (.int .u64 o) ∧ W.cell? ⟨w.heap.size, 4, none⟩ = some (.int .u64 n) ∧ W.cell? ⟨w.heap.size, 5, none⟩ = some (.string t) ∧ W.cell? ⟨w.heap.size + 1, 0, none⟩ = some (.int .i64 k) ∧ W.cell? ⟨w.heap.size + 1, 1, none⟩ = some (.int .u64 b) ∧ W.cell? ⟨w.heap.size + 1, 2, none⟩ = some (.int .i64 c) ∧ W.cell? ⟨w.heap.size + 1, 3, none⟩ = some (.int .u64 o) ∧ W.cell? ⟨w.heap.size + 1, 4, none⟩ = some (.int .u64 n) ∧ W.cell? ⟨w.heap.size + 1, 5, none⟩ = some (.string t)) w7 := ⟨A7.cell 0, A7.cell 1, A7.cell 2, A7.cell 3, A7.cell 4, A7.cell 5, B7.cell 0, B7.cell 1, B7.cell 2, B7.cell 3, B7.cell 4, B7.cell 5⟩
            have q7 := Below.next_ q6 hb7
            clear hb7 A6 B6 q6
            go_wp2_with fail
            (refine hq.out _ _ (fun W : World => W.cell? ⟨w.heap.size, 0, none⟩ = some (.int .i64 k) ∧ W.cell? ⟨w.heap.size, 1, none⟩ = some (.int .u64 b) ∧ W.cell? ⟨w.heap.size, 2, none⟩ = some (.int .i64 c) ∧ W.cell? ⟨w.heap.size, 3, none⟩ = some (.int .u64 o) ∧ W.cell? ⟨w.heap.size, 4, none⟩ = some (.int .u64 n) ∧ W.cell? ⟨w.heap.size, 5, none⟩ = some (.string t) ∧ W.cell? ⟨w.heap.size + 1, 0, none⟩ = some (.int .i64 k) ∧ W.cell? ⟨w.heap.size + 1, 1, none⟩ = some (.int .u64 b) ∧ W.cell? ⟨w.heap.size + 1, 2, none⟩ = some (.int .i64 c) ∧ W.cell? ⟨w.heap.size + 1, 3, none⟩ = some (.int .u64 o) ∧ W.cell? ⟨w.heap.size + 1, 4, none⟩ = some (.int .u64 n) ∧ W.cell? ⟨w.heap.size + 1, 5, none⟩ = some (.string t)) (fun _ h => h) hHeld ?_; clear hq K; (try simp only [Act.put, List.setIfInBounds_toArray, List.set_cons_zero, List.set_cons_succ]))
            repeat (first | (refine lex_take (v := ?_) rfl (by rfl) (by assumption) ?_ ?_; rotate_left 1; (focus (intro w hSw; (try dsimp only at hSw); go_simp; (try with_reducible rfl))); (try simp only [Act.put, List.setIfInBounds_toArray, List.set_cons_zero, List.set_cons_succ])) | (refine lex_pass rfl (by rfl) (by assumption) ?_; (try simp only [Act.put, List.setIfInBounds_toArray, List.set_cons_zero, List.set_cons_succ])))
            (refine lex_call rfl (by rfl) (fun K hq => ?_); go_simp)
            go_at_call 5
            refine (P1.out _ q7).mono ?_; rintro e w8 ⟨rfl, hb8⟩
            have A8 := A7.below hb8 A7.lt
            have B8 := B7.below hb8 B7.lt
            clear hHeld
            have hHeld : (fun W : World => W.cell? ⟨w.heap.size, 0, none⟩ = some (.int .i64 k) ∧ W.cell? ⟨w.heap.size, 1, none⟩ = some (.int .u64 b) ∧ W.cell? ⟨w.heap.size, 2, none⟩ = some (.int .i64 c) ∧ W.cell? ⟨w.heap.size, 3, none⟩ = some (.int .u64 o) ∧ W.cell? ⟨w.heap.size, 4, none⟩ = some (.int .u64 n) ∧ W.cell? ⟨w.heap.size, 5, none⟩ = some (.string t) ∧ W.cell? ⟨w.heap.size + 1, 0, none⟩ = some (.int .i64 k) ∧ W.cell? ⟨w.heap.size + 1, 1, none⟩ = some (.int .u64 b) ∧ W.cell? ⟨w.heap.size + 1, 2, none⟩ = some (.int .i64 c) ∧ W.cell? ⟨w.heap.size + 1, 3, none⟩ = some (.int .u64 o) ∧ W.cell? ⟨w.heap.size + 1, 4, none⟩ = some (.int .u64 n) ∧ W.cell? ⟨w.heap.size + 1, 5, none⟩ = some (.string t)) w8 := ⟨A8.cell 0, A8.cell 1, A8.cell 2, A8.cell 3, A8.cell 4, A8.cell 5, B8.cell 0, B8.cell 1, B8.cell 2, B8.cell 3, B8.cell 4, B8.cell 5⟩
            have q8 := Below.next_ q7 hb8
            clear hb8 A7 B7 q7
            go_wp2_with fail
            (refine hq.out _ _ (fun W : World => W.cell? ⟨w.heap.size, 0, none⟩ = some (.int .i64 k) ∧ W.cell? ⟨w.heap.size, 1, none⟩ = some (.int .u64 b) ∧ W.cell? ⟨w.heap.size, 2, none⟩ = some (.int .i64 c) ∧ W.cell? ⟨w.heap.size, 3, none⟩ = some (.int .u64 o) ∧ W.cell? ⟨w.heap.size, 4, none⟩ = some (.int .u64 n) ∧ W.cell? ⟨w.heap.size, 5, none⟩ = some (.string t) ∧ W.cell? ⟨w.heap.size + 1, 0, none⟩ = some (.int .i64 k) ∧ W.cell? ⟨w.heap.size + 1, 1, none⟩ = some (.int .u64 b) ∧ W.cell? ⟨w.heap.size + 1, 2, none⟩ = some (.int .i64 c) ∧ W.cell? ⟨w.heap.size + 1, 3, none⟩ = some (.int .u64 o) ∧ W.cell? ⟨w.heap.size + 1, 4, none⟩ = some (.int .u64 n) ∧ W.cell? ⟨w.heap.size + 1, 5, none⟩ = some (.string t)) (fun _ h => h) hHeld ?_; clear hq K; (try simp only [Act.put, List.setIfInBounds_toArray, List.set_cons_zero, List.set_cons_succ]))
            repeat (first | (refine lex_take (v := ?_) rfl (by rfl) (by assumption) ?_ ?_; rotate_left 1; (focus (intro w hSw; (try dsimp only at hSw); go_simp; (try with_reducible rfl))); (try simp only [Act.put, List.setIfInBounds_toArray, List.set_cons_zero, List.set_cons_succ])) | (refine lex_pass rfl (by rfl) (by assumption) ?_; (try simp only [Act.put, List.setIfInBounds_toArray, List.set_cons_zero, List.set_cons_succ])))
            (refine lex_call rfl (by rfl) (fun K hq => ?_); go_simp)
            go_at_call 5
            refine (P3.out _ q8).mono ?_; rintro e w9 ⟨rfl, hb9⟩
            have A9 := A8.below hb9 A8.lt
            have B9 := B8.below hb9 B8.lt
            clear hHeld
            have hHeld : (fun W : World => W.cell? ⟨w.heap.size, 0, none⟩ = some (.int .i64 k) ∧ W.cell? ⟨w.heap.size, 1, none⟩ = some (.int .u64 b) ∧ W.cell? ⟨w.heap.size, 2, none⟩ = some (.int .i64 c) ∧ W.cell? ⟨w.heap.size, 3, none⟩ = some (.int .u64 o) ∧ W.cell? ⟨w.heap.size, 4, none⟩ = some (.int .u64 n) ∧ W.cell? ⟨w.heap.size, 5, none⟩ = some (.string t) ∧ W.cell? ⟨w.heap.size + 1, 0, none⟩ = some (.int .i64 k) ∧ W.cell? ⟨w.heap.size + 1, 1, none⟩ = some (.int .u64 b) ∧ W.cell? ⟨w.heap.size + 1, 2, none⟩ = some (.int .i64 c) ∧ W.cell? ⟨w.heap.size + 1, 3, none⟩ = some (.int .u64 o) ∧ W.cell? ⟨w.heap.size + 1, 4, none⟩ = some (.int .u64 n) ∧ W.cell? ⟨w.heap.size + 1, 5, none⟩ = some (.string t)) w9 := ⟨A9.cell 0, A9.cell 1, A9.cell 2, A9.cell 3, A9.cell 4, A9.cell 5, B9.cell 0, B9.cell 1, B9.cell 2, B9.cell 3, B9.cell 4, B9.cell 5⟩
            have q9 := Below.next_ q8 hb9
            clear hb9 A8 B8 q8
            go_wp2_with fail
            (refine hq.out _ _ (fun W : World => W.cell? ⟨w.heap.size, 0, none⟩ = some (.int .i64 k) ∧ W.cell? ⟨w.heap.size, 1, none⟩ = some (.int .u64 b) ∧ W.cell? ⟨w.heap.size, 2, none⟩ = some (.int .i64 c) ∧ W.cell? ⟨w.heap.size, 3, none⟩ = some (.int .u64 o) ∧ W.cell? ⟨w.heap.size, 4, none⟩ = some (.int .u64 n) ∧ W.cell? ⟨w.heap.size, 5, none⟩ = some (.string t) ∧ W.cell? ⟨w.heap.size + 1, 0, none⟩ = some (.int .i64 k) ∧ W.cell? ⟨w.heap.size + 1, 1, none⟩ = some (.int .u64 b) ∧ W.cell? ⟨w.heap.size + 1, 2, none⟩ = some (.int .i64 c) ∧ W.cell? ⟨w.heap.size + 1, 3, none⟩ = some (.int .u64 o) ∧ W.cell? ⟨w.heap.size + 1, 4, none⟩ = some (.int .u64 n) ∧ W.cell? ⟨w.heap.size + 1, 5, none⟩ = some (.string t)) (fun _ h => h) hHeld ?_; clear hq K; (try simp only [Act.put, List.setIfInBounds_toArray, List.set_cons_zero, List.set_cons_succ]))
            repeat (first | (refine lex_take (v := ?_) rfl (by rfl) (by assumption) ?_ ?_; rotate_left 1; (focus (intro w hSw; (try dsimp only at hSw); go_simp; (try with_reducible rfl))); (try simp only [Act.put, List.setIfInBounds_toArray, List.set_cons_zero, List.set_cons_succ])) | (refine lex_pass rfl (by rfl) (by assumption) ?_; (try simp only [Act.put, List.setIfInBounds_toArray, List.set_cons_zero, List.set_cons_succ])))
            refine lex_end ?_
            refine hR.out _ _ ?_
            clear hR R
            go_wp2_with fail
            refine (hA.out _ q9).mono ?_; rintro e w20 ⟨rfl, hb20⟩
            go_wp2_with fail
            go_ret
            exact ⟨rfl, Below.next_ q9 hb20⟩
          · have hne := hinj2.out rfl rfl hxy
            have t1 := toList_ne hne
            have t2' : (TX.toList == TY.toList) = false := beq_eq_false_iff_ne.2 t1
            have hd := hdiff.out hxy
            clear hinj2 heq hdiff hne hxy
            have five : ∀ {a b : Int}, a ≠ b → (a == b) = false := fun h => beq_eq_false_iff_ne.2 h
            rcases hd with h | ⟨h1, h⟩ | ⟨h1, h2, h⟩ | ⟨h1, h2, h3, h⟩ | ⟨h1, h2, h3, h4, h⟩ | ⟨h1, h2, h3, h4, h5, h⟩
            · have hf := five h
              replace h := Lib.hid h
              clear five
              go_upto_region 5 with fail
              refine wp_region_lex [(true, 0), (false, 1), (true, 2), (true, 3), (false, 4), (true, 5), (true, 6), (true, 7), (true, 9), (true, 12), (true, 13), (true, 14), (false, 8), (false, 10), (true, 11), (true, 15), (true, 16)] (fun W : World => W.cell? ⟨w.heap.size, 0, none⟩ = some (.int .i64 k) ∧ W.cell? ⟨w.heap.size, 1, none⟩ = some (.int .u64 b) ∧ W.cell? ⟨w.heap.size, 2, none⟩ = some (.int .i64 c) ∧ W.cell? ⟨w.heap.size, 3, none⟩ = some (.int .u64 o) ∧ W.cell? ⟨w.heap.size, 4, none⟩ = some (.int .u64 n) ∧ W.cell? ⟨w.heap.size, 5, none⟩ = some (.string t) ∧ W.cell? ⟨w.heap.size + 1, 0, none⟩ = some (.int .i64 k2) ∧ W.cell? ⟨w.heap.size + 1, 1, none⟩ = some (.int .u64 b2) ∧ W.cell? ⟨w.heap.size + 1, 2, none⟩ = some (.int .i64 c2) ∧ W.cell? ⟨w.heap.size + 1, 3, none⟩ = some (.int .u64 o2) ∧ W.cell? ⟨w.heap.size + 1, 4, none⟩ = some (.int .u64 n2) ∧ W.cell? ⟨w.heap.size + 1, 5, none⟩ = some (.string t2)) (by kernel_rfl) (by kernel_rfl) (fun R hR => ?_)
              have hHeld : (fun W : World => W.cell? ⟨w.heap.size, 0, none⟩ = some (.int .i64 k) ∧ W.cell? ⟨w.heap.size, 1, none⟩ = some (.int .u64 b) ∧ W.cell? ⟨w.heap.size, 2, none⟩ = some (.int .i64 c) ∧ W.cell? ⟨w.heap.size, 3, none⟩ = some (.int .u64 o) ∧ W.cell? ⟨w.heap.size, 4, none⟩ = some (.int .u64 n) ∧ W.cell? ⟨w.heap.size, 5, none⟩ = some (.string t) ∧ W.cell? ⟨w.heap.size + 1, 0, none⟩ = some (.int .i64 k2) ∧ W.cell? ⟨w.heap.size + 1, 1, none⟩ = some (.int .u64 b2) ∧ W.cell? ⟨w.heap.size + 1, 2, none⟩ = some (.int .i64 c2) ∧ W.cell? ⟨w.heap.size + 1, 3, none⟩ = some (.int .u64 o2) ∧ W.cell? ⟨w.heap.size + 1, 4, none⟩ = some (.int .u64 n2) ∧ W.cell? ⟨w.heap.size + 1, 5, none⟩ = some (.string t2)) w4.drew := hHeld4.out
              have q5 := q4.drew
              have A5 := BX4.out.drew
              have B5 := BY4.out.drew
              clear hHeld4
              repeat (first | (refine lex_take (v := ?_) rfl (by rfl) (by assumption) ?_ ?_; rotate_left 1; (focus (intro w hSw; (try dsimp only at hSw); go_simp; (try with_reducible rfl))); (try simp only [Act.put, List.setIfInBounds_toArray, List.set_cons_zero, List.set_cons_succ])) | (refine lex_pass rfl (by rfl) (by assumption) ?_; (try simp only [Act.put, List.setIfInBounds_toArray, List.set_cons_zero, List.set_cons_succ])))
              (refine lex_call rfl (by rfl) (fun K hq => ?_); go_simp)
              go_at_call 7
              refine (R1.out _).mono ?_; rintro e w6 ⟨rfl, hb6⟩
              have A6 := A5.below hb6 A5.lt
              have B6 := B5.below hb6 B5.lt
              clear hHeld
              have hHeld : (fun W : World => W.cell? ⟨w.heap.size, 0, none⟩ = some (.int .i64 k) ∧ W.cell? ⟨w.heap.size, 1, none⟩ = some (.int .u64 b) ∧ W.cell? ⟨w.heap.size, 2, none⟩ = some (.int .i64 c) ∧ W.cell? ⟨w.heap.size, 3, none⟩ = some (.int .u64 o) ∧ W.cell? ⟨w.heap.size, 4, none⟩ = some (.int .u64 n) ∧ W.cell? ⟨w.heap.size, 5, none⟩ = some (.string t) ∧ W.cell? ⟨w.heap.size + 1, 0, none⟩ = some (.int .i64 k2) ∧ W.cell? ⟨w.heap.size + 1, 1, none⟩ = some (.int .u64 b2) ∧ W.cell? ⟨w.heap.size + 1, 2, none⟩ = some (.int .i64 c2) ∧ W.cell? ⟨w.heap.size + 1, 3, none⟩ = some (.int .u64 o2) ∧ W.cell? ⟨w.heap.size + 1, 4, none⟩ = some (.int .u64 n2) ∧ W.cell? ⟨w.heap.size + 1, 5, none⟩ = some (.string t2)) w6 := ⟨A6.cell 0, A6.cell 1, A6.cell 2, A6.cell 3, A6.cell 4, A6.cell 5, B6.cell 0, B6.cell 1, B6.cell 2, B6.cell 3, B6.cell 4, B6.cell 5⟩
              have q6 := Below.next_ q5 hb6
              clear hb6 A5 B5 q5
              go_wp2_with fail
              (refine hq.out _ _ (fun W : World => W.cell? ⟨w.heap.size, 0, none⟩ = some (.int .i64 k) ∧ W.cell? ⟨w.heap.size, 1, none⟩ = some (.int .u64 b) ∧ W.cell? ⟨w.heap.size, 2, none⟩ = some (.int .i64 c) ∧ W.cell? ⟨w.heap.size, 3, none⟩ = some (.int .u64 o) ∧ W.cell? ⟨w.heap.size, 4, none⟩ = some (.int .u64 n) ∧ W.cell? ⟨w.heap.size, 5, none⟩ = some (.string t) ∧ W.cell? ⟨w.heap.size + 1, 0, none⟩ = some (.int .i64 k2) ∧ W.cell? ⟨w.heap.size + 1, 1, none⟩ = some (.int .u64 b2) ∧ W.cell? ⟨w.heap.size + 1, 2, none⟩ = some (.int .i64 c2) ∧ W.cell? ⟨w.heap.size + 1, 3, none⟩ = some (.int .u64 o2) ∧ W.cell? ⟨w.heap.size + 1, 4, none⟩ = some (.int .u64 n2) ∧ W.cell? ⟨w.heap.size + 1, 5, none⟩ = some (.string t2)) (fun _ h => h) hHeld ?_; clear hq K; (try simp only [Act.put, List.setIfInBounds_toArray, List.set_cons_zero, List.set_cons_succ]))
              repeat (first | (refine lex_take (v := ?_) rfl (by rfl) (by assumption) ?_ ?_; rotate_left 1; (focus (intro w hSw; (try dsimp only at hSw); go_simp; (try with_reducible rfl))); (try simp only [Act.put, List.setIfInBounds_toArray, List.set_cons_zero, List.set_cons_succ])) | (refine lex_pass rfl (by rfl) (by assumption) ?_; (try simp only [Act.put, List.setIfInBounds_toArray, List.set_cons_zero, List.set_cons_succ])))
              (refine lex_call rfl (by rfl) (fun K hq => ?_); go_simp)
              go_at_call 7
              refine (R2.out _).mono ?_; rintro e w7 ⟨rfl, hb7⟩
              have A7 := A6.below hb7 A6.lt
              have B7 := B6.below hb7 B6.lt
              clear hHeld
              have hHeld : (fun W : World => W.cell? ⟨w.heap.size, 0, none⟩ = some (.int .i64 k) ∧ W.cell? ⟨w.heap.size, 1, none⟩ = some (.int .u64 b) ∧ W.cell? ⟨w.heap.size, 2, none⟩ = some (.int .i64 c) ∧ W.cell? ⟨w.heap.size, 3, none⟩ = some (.int .u64 o) ∧ W.cell? ⟨w.heap.size, 4, none⟩ = some (.int .u64 n) ∧ W.cell? ⟨w.heap.size, 5, none⟩ = some (.string t) ∧ W.cell? ⟨w.heap.size + 1, 0, none⟩ = some (.int .i64 k2) ∧ W.cell? ⟨w.heap.size + 1, 1, none⟩ = some (.int .u64 b2) ∧ W.cell? ⟨w.heap.size + 1, 2, none⟩ = some (.int .i64 c2) ∧ W.cell? ⟨w.heap.size + 1, 3, none⟩ = some (.int .u64 o2) ∧ W.cell? ⟨w.heap.size + 1, 4, none⟩ = some (.int .u64 n2) ∧ W.cell? ⟨w.heap.size + 1, 5, none⟩ = some (.string t2)) w7 := ⟨A7.cell 0, A7.cell 1, A7.cell 2, A7.cell 3, A7.cell 4, A7.cell 5, B7.cell 0, B7.cell 1, B7.cell 2, B7.cell 3, B7.cell 4, B7.cell 5⟩
              have q7 := Below.next_ q6 hb7
              clear hb7 A6 B6 q6
              go_wp2_with fail
              (refine hq.out _ _ (fun W : World => W.cell? ⟨w.heap.size, 0, none⟩ = some (.int .i64 k) ∧ W.cell? ⟨w.heap.size, 1, none⟩ = some (.int .u64 b) ∧ W.cell? ⟨w.heap.size, 2, none⟩ = some (.int .i64 c) ∧ W.cell? ⟨w.heap.size, 3, none⟩ = some (.int .u64 o) ∧ W.cell? ⟨w.heap.size, 4, none⟩ = some (.int .u64 n) ∧ W.cell? ⟨w.heap.size, 5, none⟩ = some (.string t) ∧ W.cell? ⟨w.heap.size + 1, 0, none⟩ = some (.int .i64 k2) ∧ W.cell? ⟨w.heap.size + 1, 1, none⟩ = some (.int .u64 b2) ∧ W.cell? ⟨w.heap.size + 1, 2, none⟩ = some (.int .i64 c2) ∧ W.cell? ⟨w.heap.size + 1, 3, none⟩ = some (.int .u64 o2) ∧ W.cell? ⟨w.heap.size + 1, 4, none⟩ = some (.int .u64 n2) ∧ W.cell? ⟨w.heap.size + 1, 5, none⟩ = some (.string t2)) (fun _ h => h) hHeld ?_; clear hq K; (try simp only [Act.put, List.setIfInBounds_toArray, List.set_cons_zero, List.set_cons_succ]))
              repeat (first | (refine lex_take (v := ?_) rfl (by rfl) (by assumption) ?_ ?_; rotate_left 1; (focus (intro w hSw; (try dsimp only at hSw); go_simp; (try with_reducible rfl))); (try simp only [Act.put, List.setIfInBounds_toArray, List.set_cons_zero, List.set_cons_succ])) | (refine lex_pass rfl (by rfl) (by assumption) ?_; (try simp only [Act.put, List.setIfInBounds_toArray, List.set_cons_zero, List.set_cons_succ])))
              (refine lex_call rfl (by rfl) (fun K hq => ?_); go_simp)
              go_at_call 5
              refine (P1.out _ q7).mono ?_; rintro e w8 ⟨rfl, hb8⟩
              have A8 := A7.below hb8 A7.lt
              have B8 := B7.below hb8 B7.lt
              clear hHeld
              have hHeld : (fun W : World => W.cell? ⟨w.heap.size, 0, none⟩ = some (.int .i64 k) ∧ W.cell? ⟨w.heap.size, 1, none⟩ = some (.int .u64 b) ∧ W.cell? ⟨w.heap.size, 2, none⟩ = some (.int .i64 c) ∧ W.cell? ⟨w.heap.size, 3, none⟩ = some (.int .u64 o) ∧ W.cell? ⟨w.heap.size, 4, none⟩ = some (.int .u64 n) ∧ W.cell? ⟨w.heap.size, 5, none⟩ = some (.string t) ∧ W.cell? ⟨w.heap.size + 1, 0, none⟩ = some (.int .i64 k2) ∧ W.cell? ⟨w.heap.size + 1, 1, none⟩ = some (.int .u64 b2) ∧ W.cell? ⟨w.heap.size + 1, 2, none⟩ = some (.int .i64 c2) ∧ W.cell? ⟨w.heap.size + 1, 3, none⟩ = some (.int .u64 o2) ∧ W.cell? ⟨w.heap.size + 1, 4, none⟩ = some (.int .u64 n2) ∧ W.cell? ⟨w.heap.size + 1, 5, none⟩ = some (.string t2)) w8 := ⟨A8.cell 0, A8.cell 1, A8.cell 2, A8.cell 3, A8.cell 4, A8.cell 5, B8.cell 0, B8.cell 1, B8.cell 2, B8.cell 3, B8.cell 4, B8.cell 5⟩
              have q8 := Below.next_ q7 hb8
              clear hb8 A7 B7 q7
              go_wp2_with fail
              (refine hq.out _ _ (fun W : World => W.cell? ⟨w.heap.size, 0, none⟩ = some (.int .i64 k) ∧ W.cell? ⟨w.heap.size, 1, none⟩ = some (.int .u64 b) ∧ W.cell? ⟨w.heap.size, 2, none⟩ = some (.int .i64 c) ∧ W.cell? ⟨w.heap.size, 3, none⟩ = some (.int .u64 o) ∧ W.cell? ⟨w.heap.size, 4, none⟩ = some (.int .u64 n) ∧ W.cell? ⟨w.heap.size, 5, none⟩ = some (.string t) ∧ W.cell? ⟨w.heap.size + 1, 0, none⟩ = some (.int .i64 k2) ∧ W.cell? ⟨w.heap.size + 1, 1, none⟩ = some (.int .u64 b2) ∧ W.cell? ⟨w.heap.size + 1, 2, none⟩ = some (.int .i64 c2) ∧ W.cell? ⟨w.heap.size + 1, 3, none⟩ = some (.int .u64 o2) ∧ W.cell? ⟨w.heap.size + 1, 4, none⟩ = some (.int .u64 n2) ∧ W.cell? ⟨w.heap.size + 1, 5, none⟩ = some (.string t2)) (fun _ h => h) hHeld ?_; clear hq K; (try simp only [Act.put, List.setIfInBounds_toArray, List.set_cons_zero, List.set_cons_succ]))
              repeat (first | (refine lex_take (v := ?_) rfl (by rfl) (by assumption) ?_ ?_; rotate_left 1; (focus (intro w hSw; (try dsimp only at hSw); go_simp; (try with_reducible rfl))); (try simp only [Act.put, List.setIfInBounds_toArray, List.set_cons_zero, List.set_cons_succ])) | (refine lex_pass rfl (by rfl) (by assumption) ?_; (try simp only [Act.put, List.setIfInBounds_toArray, List.set_cons_zero, List.set_cons_succ])))
              (refine lex_call rfl (by rfl) (fun K hq => ?_); go_simp)
              go_at_call 5
              refine (P3.out _ q8).mono ?_; rintro e w9 ⟨rfl, hb9⟩
              have A9 := A8.below hb9 A8.lt
              have B9 := B8.below hb9 B8.lt
              clear hHeld
              have hHeld : (fun W : World => W.cell? ⟨w.heap.size, 0, none⟩ = some (.int .i64 k) ∧ W.cell? ⟨w.heap.size, 1, none⟩ = some (.int .u64 b) ∧ W.cell? ⟨w.heap.size, 2, none⟩ = some (.int .i64 c) ∧ W.cell? ⟨w.heap.size, 3, none⟩ = some (.int .u64 o) ∧ W.cell? ⟨w.heap.size, 4, none⟩ = some (.int .u64 n) ∧ W.cell? ⟨w.heap.size, 5, none⟩ = some (.string t) ∧ W.cell? ⟨w.heap.size + 1, 0, none⟩ = some (.int .i64 k2) ∧ W.cell? ⟨w.heap.size + 1, 1, none⟩ = some (.int .u64 b2) ∧ W.cell? ⟨w.heap.size + 1, 2, none⟩ = some (.int .i64 c2) ∧ W.cell? ⟨w.heap.size + 1, 3, none⟩ = some (.int .u64 o2) ∧ W.cell? ⟨w.heap.size + 1, 4, none⟩ = some (.int .u64 n2) ∧ W.cell? ⟨w.heap.size + 1, 5, none⟩ = some (.string t2)) w9 := ⟨A9.cell 0, A9.cell 1, A9.cell 2, A9.cell 3, A9.cell 4, A9.cell 5, B9.cell 0, B9.cell 1, B9.cell 2, B9.cell 3, B9.cell 4, B9.cell 5⟩
              have q9 := Below.next_ q8 hb9
              clear hb9 A8 B8 q8
              go_wp2_with fail
              (refine hq.out _ _ (fun W : World => W.cell? ⟨w.heap.size, 0, none⟩ = some (.int .i64 k) ∧ W.cell? ⟨w.heap.size, 1, none⟩ = some (.int .u64 b) ∧ W.cell? ⟨w.heap.size, 2, none⟩ = some (.int .i64 c) ∧ W.cell? ⟨w.heap.size, 3, none⟩ = some (.int .u64 o) ∧ W.cell? ⟨w.heap.size, 4, none⟩ = some (.int .u64 n) ∧ W.cell? ⟨w.heap.size, 5, none⟩ = some (.string t) ∧ W.cell? ⟨w.heap.size + 1, 0, none⟩ = some (.int .i64 k2) ∧ W.cell? ⟨w.heap.size + 1, 1, none⟩ = some (.int .u64 b2) ∧ W.cell? ⟨w.heap.size + 1, 2, none⟩ = some (.int .i64 c2) ∧ W.cell? ⟨w.heap.size + 1, 3, none⟩ = some (.int .u64 o2) ∧ W.cell? ⟨w.heap.size + 1, 4, none⟩ = some (.int .u64 n2) ∧ W.cell? ⟨w.heap.size + 1, 5, none⟩ = some (.string t2)) (fun _ h => h) hHeld ?_; clear hq K; (try simp only [Act.put, List.setIfInBounds_toArray, List.set_cons_zero, List.set_cons_succ]))
              repeat (first | (refine lex_take (v := ?_) rfl (by rfl) (by assumption) ?_ ?_; rotate_left 1; (focus (intro w hSw; (try dsimp only at hSw); go_simp; (try with_reducible rfl))); (try simp only [Act.put, List.setIfInBounds_toArray, List.set_cons_zero, List.set_cons_succ])) | (refine lex_pass rfl (by rfl) (by assumption) ?_; (try simp only [Act.put, List.setIfInBounds_toArray, List.set_cons_zero, List.set_cons_succ])))
              refine lex_end ?_
              refine hR.out _ _ ?_
              clear hR R
              go_wp2_with fail
              refine (hA.out _ q9).mono ?_; rintro e w20 ⟨rfl, hb20⟩
              go_wp2_with fail
              go_ret
              exact ⟨rfl, Below.next_ q9 hb20⟩
            · subst h1
              have hf := five h
              replace h := Lib.hid h
              clear five
              go_upto_region 5 with fail
              refine wp_region_lex [(true, 0), (false, 1), (true, 2), (true, 3), (false, 4), (true, 5), (true, 6), (true, 7), (true, 9), (true, 12), (true, 13), (true, 14), (false, 8), (false, 10), (true, 11), (true, 15), (true, 16)] (fun W : World => W.cell? ⟨w.heap.size, 0, none⟩ = some (.int .i64 k) ∧ W.cell? ⟨w.heap.size, 1, none⟩ = some (.int .u64 b) ∧ W.cell? ⟨w.heap.size, 2, none⟩ = some (.int .i64 c) ∧ W.cell? ⟨w.heap.size, 3, none⟩ = some (.int .u64 o) ∧ W.cell? ⟨w.heap.size, 4, none⟩ = some (.int .u64 n) ∧ W.cell? ⟨w.heap.size, 5, none⟩ = some (.string t) ∧ W.cell? ⟨w.heap.size + 1, 0, none⟩ = some (.int .i64 k) ∧ W.cell? ⟨w.heap.size + 1, 1, none⟩ = some (.int .u64 b2) ∧ W.cell? ⟨w.heap.size + 1, 2, none⟩ = some (.int .i64 c2) ∧ W.cell? ⟨w.heap.size + 1, 3, none⟩ = some (.int .u64 o2) ∧ W.cell? ⟨w.heap.size + 1, 4, none⟩ = some (.int .u64 n2) ∧ W.cell? ⟨w.heap.size + 1, 5, none⟩ = some (.string t2)) (by kernel_rfl) (by kernel_rfl) (fun R hR => ?_)
              have hHeld : (fun W : World => W.cell? ⟨w.heap.size, 0, none⟩ = some (.int .i64 k) ∧ W.cell? ⟨w.heap.size, 1, none⟩ = some (.int .u64 b) ∧ W.cell? ⟨w.heap.size, 2, none⟩ = some (.int .i64 c) ∧ W.cell? ⟨w.heap.size, 3, none⟩ = some (.int .u64 o) ∧ W.cell? ⟨w.heap.size, 4, none⟩ = some (.int .u64 n) ∧ W.cell? ⟨w.heap.size, 5, none⟩ = some (.string t) ∧ W.cell? ⟨w.heap.size + 1, 0, none⟩ = some (.int .i64 k) ∧ W.cell? ⟨w.heap.size + 1, 1, none⟩ = some (.int .u64 b2) ∧ W.cell? ⟨w.heap.size + 1, 2, none⟩ = some (.int .i64 c2) ∧ W.cell? ⟨w.heap.size + 1, 3, none⟩ = some (.int .u64 o2) ∧ W.cell? ⟨w.heap.size + 1, 4, none⟩ = some (.int .u64 n2) ∧ W.cell? ⟨w.heap.size + 1, 5, none⟩ = some (.string t2)) w4.drew := hHeld4.out
              have q5 := q4.drew
              have A5 := BX4.out.drew
              have B5 := BY4.out.drew
              clear hHeld4
              repeat (first | (refine lex_take (v := ?_) rfl (by rfl) (by assumption) ?_ ?_; rotate_left 1; (focus (intro w hSw; (try dsimp only at hSw); go_simp; (try with_reducible rfl))); (try simp only [Act.put, List.setIfInBounds_toArray, List.set_cons_zero, List.set_cons_succ])) | (refine lex_pass rfl (by rfl) (by assumption) ?_; (try simp only [Act.put, List.setIfInBounds_toArray, List.set_cons_zero, List.set_cons_succ])))
              (refine lex_call rfl (by rfl) (fun K hq => ?_); go_simp)
              go_at_call 7
              refine (R1.out _).mono ?_; rintro e w6 ⟨rfl, hb6⟩
              have A6 := A5.below hb6 A5.lt
              have B6 := B5.below hb6 B5.lt
              clear hHeld
              have hHeld : (fun W : World => W.cell? ⟨w.heap.size, 0, none⟩ = some (.int .i64 k) ∧ W.cell? ⟨w.heap.size, 1, none⟩ = some (.int .u64 b) ∧ W.cell? ⟨w.heap.size, 2, none⟩ = some (.int .i64 c) ∧ W.cell? ⟨w.heap.size, 3, none⟩ = some (.int .u64 o) ∧ W.cell? ⟨w.heap.size, 4, none⟩ = some (.int .u64 n) ∧ W.cell? ⟨w.heap.size, 5, none⟩ = some (.string t) ∧ W.cell? ⟨w.heap.size + 1, 0, none⟩ = some (.int .i64 k) ∧ W.cell? ⟨w.heap.size + 1, 1, none⟩ = some (.int .u64 b2) ∧ W.cell? ⟨w.heap.size + 1, 2, none⟩ = some (.int .i64 c2) ∧ W.cell? ⟨w.heap.size + 1, 3, none⟩ = some (.int .u64 o2) ∧ W.cell? ⟨w.heap.size + 1, 4, none⟩ = some (.int .u64 n2) ∧ W.cell? ⟨w.heap.size + 1, 5, none⟩ = some (.string t2)) w6 := ⟨A6.cell 0, A6.cell 1, A6.cell 2, A6.cell 3, A6.cell 4, A6.cell 5, B6.cell 0, B6.cell 1, B6.cell 2, B6.cell 3, B6.cell 4, B6.cell 5⟩
              have q6 := Below.next_ q5 hb6
              clear hb6 A5 B5 q5
              go_wp2_with fail
              (refine hq.out _ _ (fun W : World => W.cell? ⟨w.heap.size, 0, none⟩ = some (.int .i64 k) ∧ W.cell? ⟨w.heap.size, 1, none⟩ = some (.int .u64 b) ∧ W.cell? ⟨w.heap.size, 2, none⟩ = some (.int .i64 c) ∧ W.cell? ⟨w.heap.size, 3, none⟩ = some (.int .u64 o) ∧ W.cell? ⟨w.heap.size, 4, none⟩ = some (.int .u64 n) ∧ W.cell? ⟨w.heap.size, 5, none⟩ = some (.string t) ∧ W.cell? ⟨w.heap.size + 1, 0, none⟩ = some (.int .i64 k) ∧ W.cell? ⟨w.heap.size + 1, 1, none⟩ = some (.int .u64 b2) ∧ W.cell? ⟨w.heap.size + 1, 2, none⟩ = some (.int .i64 c2) ∧ W.cell? ⟨w.heap.size + 1, 3, none⟩ = some (.int .u64 o2) ∧ W.cell? ⟨w.heap.size + 1, 4, none⟩ = some (.int .u64 n2) ∧ W.cell? ⟨w.heap.size + 1, 5, none⟩ = some (.string t2)) (fun _ h => h) hHeld ?_; clear hq K; (try simp only [Act.put, List.setIfInBounds_toArray, List.set_cons_zero, List.set_cons_succ]))
              repeat (first | (refine lex_take (v := ?_) rfl (by rfl) (by assumption) ?_ ?_; rotate_left 1; (focus (intro w hSw; (try dsimp only at hSw); go_simp; (try with_reducible rfl))); (try simp only [Act.put, List.setIfInBounds_toArray, List.set_cons_zero, List.set_cons_succ])) | (refine lex_pass rfl (by rfl) (by assumption) ?_; (try simp only [Act.put, List.setIfInBounds_toArray, List.set_cons_zero, List.set_cons_succ])))
              (refine lex_call rfl (by rfl) (fun K hq => ?_); go_simp)
              go_at_call 7
              refine (R2.out _).mono ?_; rintro e w7 ⟨rfl, hb7⟩
              have A7 := A6.below hb7 A6.lt
              have B7 := B6.below hb7 B6.lt
              clear hHeld
              have hHeld : (fun W : World => W.cell? ⟨w.heap.size, 0, none⟩ = some (.int .i64 k) ∧ W.cell? ⟨w.heap.size, 1, none⟩ = some (.int .u64 b) ∧ W.cell? ⟨w.heap.size, 2, none⟩ = some (.int .i64 c) ∧ W.cell? ⟨w.heap.size, 3, none⟩ = some (.int .u64 o) ∧ W.cell? ⟨w.heap.size, 4, none⟩ = some (.int .u64 n) ∧ W.cell? ⟨w.heap.size, 5, none⟩ = some (.string t) ∧ W.cell? ⟨w.heap.size + 1, 0, none⟩ = some (.int .i64 k) ∧ W.cell? ⟨w.heap.size + 1, 1, none⟩ = some (.int .u64 b2) ∧ W.cell? ⟨w.heap.size + 1, 2, none⟩ = some (.int .i64 c2) ∧ W.cell? ⟨w.heap.size + 1, 3, none⟩ = some (.int .u64 o2) ∧ W.cell? ⟨w.heap.size + 1, 4, none⟩ = some (.int .u64 n2) ∧ W.cell? ⟨w.heap.size + 1, 5, none⟩ = some (.string t2)) w7 := ⟨A7.cell 0, A7.cell 1, A7.cell 2, A7.cell 3, A7.cell 4, A7.cell 5, B7.cell 0, B7.cell 1, B7.cell 2, B7.cell 3, B7.cell 4, B7.cell 5⟩
              have q7 := Below.next_ q6 hb7
              clear hb7 A6 B6 q6
              go_wp2_with fail
              (refine hq.out _ _ (fun W : World => W.cell? ⟨w.heap.size, 0, none⟩ = some (.int .i64 k) ∧ W.cell? ⟨w.heap.size, 1, none⟩ = some (.int .u64 b) ∧ W.cell? ⟨w.heap.size, 2, none⟩ = some (.int .i64 c) ∧ W.cell? ⟨w.heap.size, 3, none⟩ = some (.int .u64 o) ∧ W.cell? ⟨w.heap.size, 4, none⟩ = some (.int .u64 n) ∧ W.cell? ⟨w.heap.size, 5, none⟩ = some (.string t) ∧ W.cell? ⟨w.heap.size + 1, 0, none⟩ = some (.int .i64 k) ∧ W.cell? ⟨w.heap.size + 1, 1, none⟩ = some (.int .u64 b2) ∧ W.cell? ⟨w.heap.size + 1, 2, none⟩ = some (.int .i64 c2) ∧ W.cell? ⟨w.heap.size + 1, 3, none⟩ = some (.int .u64 o2) ∧ W.cell? ⟨w.heap.size + 1, 4, none⟩ = some (.int .u64 n2) ∧ W.cell? ⟨w.heap.size + 1, 5, none⟩ = some (.string t2)) (fun _ h => h) hHeld ?_; clear hq K; (try simp only [Act.put, List.setIfInBounds_toArray, List.set_cons_zero, List.set_cons_succ]))
              repeat (first | (refine lex_take (v := ?_) rfl (by rfl) (by assumption) ?_ ?_; rotate_left 1; (focus (intro w hSw; (try dsimp only at hSw); go_simp; (try with_reducible rfl))); (try simp only [Act.put, List.setIfInBounds_toArray, List.set_cons_zero, List.set_cons_succ])) | (refine lex_pass rfl (by rfl) (by assumption) ?_; (try simp only [Act.put, List.setIfInBounds_toArray, List.set_cons_zero, List.set_cons_succ])))
              (refine lex_call rfl (by rfl) (fun K hq => ?_); go_simp)
              go_at_call 5
              refine (P1.out _ q7).mono ?_; rintro e w8 ⟨rfl, hb8⟩
              have A8 := A7.below hb8 A7.lt
              have B8 := B7.below hb8 B7.lt
              clear hHeld
              have hHeld : (fun W : World => W.cell? ⟨w.heap.size, 0, none⟩ = some (.int .i64 k) ∧ W.cell? ⟨w.heap.size, 1, none⟩ = some (.int .u64 b) ∧ W.cell? ⟨w.heap.size, 2, none⟩ = some (.int .i64 c) ∧ W.cell? ⟨w.heap.size, 3, none⟩ = some (.int .u64 o) ∧ W.cell? ⟨w.heap.size, 4, none⟩ = some (.int .u64 n) ∧ W.cell? ⟨w.heap.size, 5, none⟩ = some (.string t) ∧ W.cell? ⟨w.heap.size + 1, 0, none⟩ = some (.int .i64 k) ∧ W.cell? ⟨w.heap.size + 1, 1, none⟩ = some (.int .u64 b2) ∧ W.cell? ⟨w.heap.size + 1, 2, none⟩ = some (.int .i64 c2) ∧ W.cell? ⟨w.heap.size + 1, 3, none⟩ = some (.int .u64 o2) ∧ W.cell? ⟨w.heap.size + 1, 4, none⟩ = some (.int .u64 n2) ∧ W.cell? ⟨w.heap.size + 1, 5, none⟩ = some (.string t2)) w8 := ⟨A8.cell 0, A8.cell 1, A8.cell 2, A8.cell 3, A8.cell 4, A8.cell 5, B8.cell 0, B8.cell 1, B8.cell 2, B8.cell 3, B8.cell 4, B8.cell 5⟩
              have q8 := Below.next_ q7 hb8
              clear hb8 A7 B7 q7
              go_wp2_with fail
              (refine hq.out _ _ (fun W : World => W.cell? ⟨w.heap.size, 0, none⟩ = some (.int .i64 k) ∧ W.cell? ⟨w.heap.size, 1, none⟩ = some (.int .u64 b) ∧ W.cell? ⟨w.heap.size, 2, none⟩ = some (.int .i64 c) ∧ W.cell? ⟨w.heap.size, 3, none⟩ = some (.int .u64 o) ∧ W.cell? ⟨w.heap.size, 4, none⟩ = some (.int .u64 n) ∧ W.cell? ⟨w.heap.size, 5, none⟩ = some (.string t) ∧ W.cell? ⟨w.heap.size + 1, 0, none⟩ = some (.int .i64 k) ∧ W.cell? ⟨w.heap.size + 1, 1, none⟩ = some (.int .u64 b2) ∧ W.cell? ⟨w.heap.size + 1, 2, none⟩ = some (.int .i64 c2) ∧ W.cell? ⟨w.heap.size + 1, 3, none⟩ = some (.int .u64 o2) ∧ W.cell? ⟨w.heap.size + 1, 4, none⟩ = some (.int .u64 n2) ∧ W.cell? ⟨w.heap.size + 1, 5, none⟩ = some (.string t2)) (fun _ h => h) hHeld ?_; clear hq K; (try simp only [Act.put, List.setIfInBounds_toArray, List.set_cons_zero, List.set_cons_succ]))
              repeat (first | (refine lex_take (v := ?_) rfl (by rfl) (by assumption) ?_ ?_; rotate_left 1; (focus (intro w hSw; (try dsimp only at hSw); go_simp; (try with_reducible rfl))); (try simp only [Act.put, List.setIfInBounds_toArray, List.set_cons_zero, List.set_cons_succ])) | (refine lex_pass rfl (by rfl) (by assumption) ?_; (try simp only [Act.put, List.setIfInBounds_toArray, List.set_cons_zero, List.set_cons_succ])))
              (refine lex_call rfl (by rfl) (fun K hq => ?_); go_simp)
              go_at_call 5
              refine (P3.out _ q8).mono ?_; rintro e w9 ⟨rfl, hb9⟩
              have A9 := A8.below hb9 A8.lt
              have B9 := B8.below hb9 B8.lt
              clear hHeld
              have hHeld : (fun W : World => W.cell? ⟨w.heap.size, 0, none⟩ = some (.int .i64 k) ∧ W.cell? ⟨w.heap.size, 1, none⟩ = some (.int .u64 b) ∧ W.cell? ⟨w.heap.size, 2, none⟩ = some (.int .i64 c) ∧ W.cell? ⟨w.heap.size, 3, none⟩ = some (.int .u64 o) ∧ W.cell? ⟨w.heap.size, 4, none⟩ = some (.int .u64 n) ∧ W.cell? ⟨w.heap.size, 5, none⟩ = some (.string t) ∧ W.cell? ⟨w.heap.size + 1, 0, none⟩ = some (.int .i64 k) ∧ W.cell? ⟨w.heap.size + 1, 1, none⟩ = some (.int .u64 b2) ∧ W.cell? ⟨w.heap.size + 1, 2, none⟩ = some (.int .i64 c2) ∧ W.cell? ⟨w.heap.size + 1, 3, none⟩ = some (.int .u64 o2) ∧ W.cell? ⟨w.heap.size + 1, 4, none⟩ = some (.int .u64 n2) ∧ W.cell? ⟨w.heap.size + 1, 5, none⟩ = some (.string t2)) w9 := ⟨A9.cell 0, A9.cell 1, A9.cell 2, A9.cell 3, A9.cell 4, A9.cell 5, B9.cell 0, B9.cell 1, B9.cell 2, B9.cell 3, B9.cell 4, B9.cell 5⟩
              have q9 := Below.next_ q8 hb9
              clear hb9 A8 B8 q8
              go_wp2_with fail
              (refine hq.out _ _ (fun W : World => W.cell? ⟨w.heap.size, 0, none⟩ = some (.int .i64 k) ∧ W.cell? ⟨w.heap.size, 1, none⟩ = some (.int .u64 b) ∧ W.cell? ⟨w.heap.size, 2, none⟩ = some (.int .i64 c) ∧ W.cell? ⟨w.heap.size, 3, none⟩ = some (.int .u64 o) ∧ W.cell? ⟨w.heap.size, 4, none⟩ = some (.int .u64 n) ∧ W.cell? ⟨w.heap.size, 5, none⟩ = some (.string t) ∧ W.cell? ⟨w.heap.size + 1, 0, none⟩ = some (.int .i64 k) ∧ W.cell? ⟨w.heap.size + 1, 1, none⟩ = some (.int .u64 b2) ∧ W.cell? ⟨w.heap.size + 1, 2, none⟩ = some (.int .i64 c2) ∧ W.cell? ⟨w.heap.size + 1, 3, none⟩ = some (.int .u64 o2) ∧ W.cell? ⟨w.heap.size + 1, 4, none⟩ = some (.int .u64 n2) ∧ W.cell? ⟨w.heap.size + 1, 5, none⟩ = some (.string t2)) (fun _ h => h) hHeld ?_; clear hq K; (try simp only [Act.put, List.setIfInBounds_toArray, List.set_cons_zero, List.set_cons_succ]))
              repeat (first | (refine lex_take (v := ?_) rfl (by rfl) (by assumption) ?_ ?_; rotate_left 1; (focus (intro w hSw; (try dsimp only at hSw); go_simp; (try with_reducible rfl))); (try simp only [Act.put, List.setIfInBounds_toArray, List.set_cons_zero, List.set_cons_succ])) | (refine lex_pass rfl (by rfl) (by assumption) ?_; (try simp only [Act.put, List.setIfInBounds_toArray, List.set_cons_zero, List.set_cons_succ])))
              refine lex_end ?_
              refine hR.out _ _ ?_
              clear hR R
              go_wp2_with fail
              refine (hA.out _ q9).mono ?_; rintro e w20 ⟨rfl, hb20⟩
              go_wp2_with fail
              go_ret
              exact ⟨rfl, Below.next_ q9 hb20⟩
            · subst h1 h2
              have hf := five h
              replace h := Lib.hid h
              clear five
              go_upto_region 5 with fail
              refine wp_region_lex [(true, 0), (false, 1), (true, 2), (true, 3), (false, 4), (true, 5), (true, 6), (true, 7), (true, 9), (true, 12), (true, 13), (true, 14), (false, 8), (false, 10), (true, 11), (true, 15), (true, 16)] (fun W : World => W.cell? ⟨w.heap.size, 0, none⟩ = some (.int .i64 k) ∧ W.cell? ⟨w.heap.size, 1, none⟩ = some (.int .u64 b) ∧ W.cell? ⟨w.heap.size, 2, none⟩ = some (.int .i64 c) ∧ W.cell? ⟨w.heap.size, 3, none⟩ = some (.int .u64 o) ∧ W.cell? ⟨w.heap.size, 4, none⟩ = some (.int .u64 n) ∧ W.cell? ⟨w.heap.size, 5, none⟩ = some (.string t) ∧ W.cell? ⟨w.heap.size + 1, 0, none⟩ = some (.int .i64 k) ∧ W.cell? ⟨w.heap.size + 1, 1, none⟩ = some (.int .u64 b) ∧ W.cell? ⟨w.heap.size + 1, 2, none⟩ = some (.int .i64 c2) ∧ W.cell? ⟨w.heap.size + 1, 3, none⟩ = some (.int .u64 o2) ∧ W.cell? ⟨w.heap.size + 1, 4, none⟩ = some (.int .u64 n2) ∧ W.cell? ⟨w.heap.size + 1, 5, none⟩ = some (.string t2)) (by kernel_rfl) (by kernel_rfl) (fun R hR => ?_)
              have hHeld : (fun W : World => W.cell? ⟨w.heap.size, 0, none⟩ = some (.int .i64 k) ∧ W.cell? ⟨w.heap.size, 1, none⟩ = some (.int .u64 b) ∧ W.cell? ⟨w.heap.size, 2, none⟩ = some (.int .i64 c) ∧ W.cell? ⟨w.heap.size, 3, none⟩ = some (.int .u64 o) ∧ W.cell? ⟨w.heap.size, 4, none⟩ = some (.int .u64 n) ∧ W.cell? ⟨w.heap.size, 5, none⟩ = some (.string t) ∧ W.cell? ⟨w.heap.size + 1, 0, none⟩ = some (.int .i64 k) ∧ W.cell? ⟨w.heap.size + 1, 1, none⟩ = some (.int .u64 b) ∧ W.cell? ⟨w.heap.size + 1, 2, none⟩ = some (.int .i64 c2) ∧ W.cell? ⟨w.heap.size + 1, 3, none⟩ = some (.int .u64 o2) ∧ W.cell? ⟨w.heap.size + 1, 4, none⟩ = some (.int .u64 n2) ∧ W.cell? ⟨w.heap.size + 1, 5, none⟩ = some (.string t2)) w4.drew := hHeld4.out
              have q5 := q4.drew
              have A5 := BX4.out.drew
              have B5 := BY4.out.drew
              clear hHeld4
              repeat (first | (refine lex_take (v := ?_) rfl (by rfl) (by assumption) ?_ ?_; rotate_left 1; (focus (intro w hSw; (try dsimp only at hSw); go_simp; (try with_reducible rfl))); (try simp only [Act.put, List.setIfInBounds_toArray, List.set_cons_zero, List.set_cons_succ])) | (refine lex_pass rfl (by rfl) (by assumption) ?_; (try simp only [Act.put, List.setIfInBounds_toArray, List.set_cons_zero, List.set_cons_succ])))
              (refine lex_call rfl (by rfl) (fun K hq => ?_); go_simp)
              go_at_call 7
              refine (R1.out _).mono ?_; rintro e w6 ⟨rfl, hb6⟩
              have A6 := A5.below hb6 A5.lt
              have B6 := B5.below hb6 B5.lt
              clear hHeld
              have hHeld : (fun W : World => W.cell? ⟨w.heap.size, 0, none⟩ = some (.int .i64 k) ∧ W.cell? ⟨w.heap.size, 1, none⟩ = some (.int .u64 b) ∧ W.cell? ⟨w.heap.size, 2, none⟩ = some (.int .i64 c) ∧ W.cell? ⟨w.heap.size, 3, none⟩ = some (.int .u64 o) ∧ W.cell? ⟨w.heap.size, 4, none⟩ = some (.int .u64 n) ∧ W.cell? ⟨w.heap.size, 5, none⟩ = some (.string t) ∧ W.cell? ⟨w.heap.size + 1, 0, none⟩ = some (.int .i64 k) ∧ W.cell? ⟨w.heap.size + 1, 1, none⟩ = some (.int .u64 b) ∧ W.cell? ⟨w.heap.size + 1, 2, none⟩ = some (.int .i64 c2) ∧ W.cell? ⟨w.heap.size + 1, 3, none⟩ = some (.int .u64 o2) ∧ W.cell? ⟨w.heap.size + 1, 4, none⟩ = some (.int .u64 n2) ∧ W.cell? ⟨w.heap.size + 1, 5, none⟩ = some (.string t2)) w6 := ⟨A6.cell 0, A6.cell 1, A6.cell 2, A6.cell 3, A6.cell 4, A6.cell 5, B6.cell 0, B6.cell 1, B6.cell 2, B6.cell 3, B6.cell 4, B6.cell 5⟩
              have q6 := Below.next_ q5 hb6
              clear hb6 A5 B5 q5
              go_wp2_with fail
              (refine hq.out _ _ (fun W : World => W.cell? ⟨w.heap.size, 0, none⟩ = some (.int .i64 k) ∧ W.cell? ⟨w.heap.size, 1, none⟩ = some (.int .u64 b) ∧ W.cell? ⟨w.heap.size, 2, none⟩ = some (.int .i64 c) ∧ W.cell? ⟨w.heap.size, 3, none⟩ = some (.int .u64 o) ∧ W.cell? ⟨w.heap.size, 4, none⟩ = some (.int .u64 n) ∧ W.cell? ⟨w.heap.size, 5, none⟩ = some (.string t) ∧ W.cell? ⟨w.heap.size + 1, 0, none⟩ = some (.int .i64 k) ∧ W.cell? ⟨w.heap.size + 1, 1, none⟩ = some (.int .u64 b) ∧ W.cell? ⟨w.heap.size + 1, 2, none⟩ = some (.int .i64 c2) ∧ W.cell? ⟨w.heap.size + 1, 3, none⟩ = some (.int .u64 o2) ∧ W.cell? ⟨w.heap.size + 1, 4, none⟩ = some (.int .u64 n2) ∧ W.cell? ⟨w.heap.size + 1, 5, none⟩ = some (.string t2)) (fun _ h => h) hHeld ?_; clear hq K; (try simp only [Act.put, List.setIfInBounds_toArray, List.set_cons_zero, List.set_cons_succ]))
              repeat (first | (refine lex_take (v := ?_) rfl (by rfl) (by assumption) ?_ ?_; rotate_left 1; (focus (intro w hSw; (try dsimp only at hSw); go_simp; (try with_reducible rfl))); (try simp only [Act.put, List.setIfInBounds_toArray, List.set_cons_zero, List.set_cons_succ])) | (refine lex_pass rfl (by rfl) (by assumption) ?_; (try simp only [Act.put, List.setIfInBounds_toArray, List.set_cons_zero, List.set_cons_succ])))
              (refine lex_call rfl (by rfl) (fun K hq => ?_); go_simp)
              go_at_call 7
              refine (R2.out _).mono ?_; rintro e w7 ⟨rfl, hb7⟩
              have A7 := A6.below hb7 A6.lt
              have B7 := B6.below hb7 B6.lt
              clear hHeld
              have hHeld : (fun W : World => W.cell? ⟨w.heap.size, 0, none⟩ = some (.int .i64 k) ∧ W.cell? ⟨w.heap.size, 1, none⟩ = some (.int .u64 b) ∧ W.cell? ⟨w.heap.size, 2, none⟩ = some (.int .i64 c) ∧ W.cell? ⟨w.heap.size, 3, none⟩ = some (.int .u64 o) ∧ W.cell? ⟨w.heap.size, 4, none⟩ = some (.int .u64 n) ∧ W.cell? ⟨w.heap.size, 5, none⟩ = some (.string t) ∧ W.cell? ⟨w.heap.size + 1, 0, none⟩ = some (.int .i64 k) ∧ W.cell? ⟨w.heap.size + 1, 1, none⟩ = some (.int .u64 b) ∧ W.cell? ⟨w.heap.size + 1, 2, none⟩ = some (.int .i64 c2) ∧ W.cell? ⟨w.heap.size + 1, 3, none⟩ = some (.int .u64 o2) ∧ W.cell? ⟨w.heap.size + 1, 4, none⟩ = some (.int .u64 n2) ∧ W.cell? ⟨w.heap.size + 1, 5, none⟩ = some (.string t2)) w7 := ⟨A7.cell 0, A7.cell 1, A7.cell 2, A7.cell 3, A7.cell 4, A7.cell 5, B7.cell 0, B7.cell 1, B7.cell 2, B7.cell 3, B7.cell 4, B7.cell 5⟩
              have q7 := Below.next_ q6 hb7
              clear hb7 A6 B6 q6
              go_wp2_with fail
              (refine hq.out _ _ (fun W : World => W.cell? ⟨w.heap.size, 0, none⟩ = some (.int .i64 k) ∧ W.cell? ⟨w.heap.size, 1, none⟩ = some (.int .u64 b) ∧ W.cell? ⟨w.heap.size, 2, none⟩ = some (.int .i64 c) ∧ W.cell? ⟨w.heap.size, 3, none⟩ = some (.int .u64 o) ∧ W.cell? ⟨w.heap.size, 4, none⟩ = some (.int .u64 n) ∧ W.cell? ⟨w.heap.size, 5, none⟩ = some (.string t) ∧ W.cell? ⟨w.heap.size + 1, 0, none⟩ = some (.int .i64 k) ∧ W.cell? ⟨w.heap.size + 1, 1, none⟩ = some (.int .u64 b) ∧ W.cell? ⟨w.heap.size + 1, 2, none⟩ = some (.int .i64 c2) ∧ W.cell? ⟨w.heap.size + 1, 3, none⟩ = some (.int .u64 o2) ∧ W.cell? ⟨w.heap.size + 1, 4, none⟩ = some (.int .u64 n2) ∧ W.cell? ⟨w.heap.size + 1, 5, none⟩ = some (.string t2)) (fun _ h => h) hHeld ?_; clear hq K; (try simp only [Act.put, List.setIfInBounds_toArray, List.set_cons_zero, List.set_cons_succ]))
              repeat (first | (refine lex_take (v := ?_) rfl (by rfl) (by assumption) ?_ ?_; rotate_left 1; (focus (intro w hSw; (try dsimp only at hSw); go_simp; (try with_reducible rfl))); (try simp only [Act.put, List.setIfInBounds_toArray, List.set_cons_zero, List.set_cons_succ])) | (refine lex_pass rfl (by rfl) (by assumption) ?_; (try simp only [Act.put, List.setIfInBounds_toArray, List.set_cons_zero, List.set_cons_succ])))
              (refine lex_call rfl (by rfl) (fun K hq => ?_); go_simp)
              go_at_call 5
              refine (P1.out _ q7).mono ?_; rintro e w8 ⟨rfl, hb8⟩
              have A8 := A7.below hb8 A7.lt
              have B8 := B7.below hb8 B7.lt
              clear hHeld
              have hHeld : (fun W : World => W.cell? ⟨w.heap.size, 0, none⟩ = some (.int .i64 k) ∧ W.cell? ⟨w.heap.size, 1, none⟩ = some (.int .u64 b) ∧ W.cell? ⟨w.heap.size, 2, none⟩ = some (.int .i64 c) ∧ W.cell? ⟨w.heap.size, 3, none⟩ = some (.int .u64 o) ∧ W.cell? ⟨w.heap.size, 4, none⟩ = some (.int .u64 n) ∧ W.cell? ⟨w.heap.size, 5, none⟩ = some (.string t) ∧ W.cell? ⟨w.heap.size + 1, 0, none⟩ = some (.int .i64 k) ∧ W.cell? ⟨w.heap.size + 1, 1, none⟩ = some (.int .u64 b) ∧ W.cell? ⟨w.heap.size + 1, 2, none⟩ = some (.int .i64 c2) ∧ W.cell? ⟨w.heap.size + 1, 3, none⟩ = some (.int .u64 o2) ∧ W.cell? ⟨w.heap.size + 1, 4, none⟩ = some (.int .u64 n2) ∧ W.cell? ⟨w.heap.size + 1, 5, none⟩ = some (.string t2)) w8 := ⟨A8.cell 0, A8.cell 1, A8.cell 2, A8.cell 3, A8.cell 4, A8.cell 5, B8.cell 0, B8.cell 1, B8.cell 2, B8.cell 3, B8.cell 4, B8.cell 5⟩
              have q8 := Below.next_ q7 hb8
              clear hb8 A7 B7 q7
              go_wp2_with fail
              (refine hq.out _ _ (fun W : World => W.cell? ⟨w.heap.size, 0, none⟩ = some (.int .i64 k) ∧ W.cell? ⟨w.heap.size, 1, none⟩ = some (.int .u64 b) ∧ W.cell? ⟨w.heap.size, 2, none⟩ = some (.int .i64 c) ∧ W.cell? ⟨w.heap.size, 3, none⟩ = some (.int .u64 o) ∧ W.cell? ⟨w.heap.size, 4, none⟩ = some (.int .u64 n) ∧ W.cell? ⟨w.heap.size, 5, none⟩ = some (.string t) ∧ W.cell? ⟨w.heap.size + 1, 0, none⟩ = some (.int .i64 k) ∧ W.cell? ⟨w.heap.size + 1, 1, none⟩ = some (.int .u64 b) ∧ W.cell? ⟨w.heap.size + 1, 2, none⟩ = some (.int .i64 c2) ∧ W.cell? ⟨w.heap.size + 1, 3, none⟩ = some (.int .u64 o2) ∧ W.cell? ⟨w.heap.size + 1, 4, none⟩ = some (.int .u64 n2) ∧ W.cell? ⟨w.heap.size + 1, 5, none⟩ = some (.string t2)) (fun _ h => h) hHeld ?_; clear hq K; (try simp only [Act.put, List.setIfInBounds_toArray, List.set_cons_zero, List.set_cons_succ]))
              repeat (first | (refine lex_take (v := ?_) rfl (by rfl) (by assumption) ?_ ?_; rotate_left 1; (focus (intro w hSw; (try dsimp only at hSw); go_simp; (try with_reducible rfl))); (try simp only [Act.put, List.setIfInBounds_toArray, List.set_cons_zero, List.set_cons_succ])) | (refine lex_pass rfl (by rfl) (by assumption) ?_; (try simp only [Act.put, List.setIfInBounds_toArray, List.set_cons_zero, List.set_cons_succ])))
              (refine lex_call rfl (by rfl) (fun K hq => ?_); go_simp)
              go_at_call 5
              refine (P3.out _ q8).mono ?_; rintro e w9 ⟨rfl, hb9⟩
              have A9 := A8.below hb9 A8.lt
              have B9 := B8.below hb9 B8.lt
              clear hHeld
              have hHeld : (fun W : World => W.cell? ⟨w.heap.size, 0, none⟩ = some (.int .i64 k) ∧ W.cell? ⟨w.heap.size, 1, none⟩ = some (.int .u64 b) ∧ W.cell? ⟨w.heap.size, 2, none⟩ = some (.int .i64 c) ∧ W.cell? ⟨w.heap.size, 3, none⟩ = some (.int .u64 o) ∧ W.cell? ⟨w.heap.size, 4, none⟩ = some (.int .u64 n) ∧ W.cell? ⟨w.heap.size, 5, none⟩ = some (.string t) ∧ W.cell? ⟨w.heap.size + 1, 0, none⟩ = some (.int .i64 k) ∧ W.cell? ⟨w.heap.size + 1, 1, none⟩ = some (.int .u64 b) ∧ W.cell? ⟨w.heap.size + 1, 2, none⟩ = some (.int .i64 c2) ∧ W.cell? ⟨w.heap.size + 1, 3, none⟩ = some (.int .u64 o2) ∧ W.cell? ⟨w.heap.size + 1, 4, none⟩ = some (.int .u64 n2) ∧ W.cell? ⟨w.heap.size + 1, 5, none⟩ = some (.string t2)) w9 := ⟨A9.cell 0, A9.cell 1, A9.cell 2, A9.cell 3, A9.cell 4, A9.cell 5, B9.cell 0, B9.cell 1, B9.cell 2, B9.cell 3, B9.cell 4, B9.cell 5⟩
              have q9 := Below.next_ q8 hb9
              clear hb9 A8 B8 q8
              go_wp2_with fail
              (refine hq.out _ _ (fun W : World => W.cell? ⟨w.heap.size, 0, none⟩ = some (.int .i64 k) ∧ W.cell? ⟨w.heap.size, 1, none⟩ = some (.int .u64 b) ∧ W.cell? ⟨w.heap.size, 2, none⟩ = some (.int .i64 c) ∧ W.cell? ⟨w.heap.size, 3, none⟩ = some (.int .u64 o) ∧ W.cell? ⟨w.heap.size, 4, none⟩ = some (.int .u64 n) ∧ W.cell? ⟨w.heap.size, 5, none⟩ = some (.string t) ∧ W.cell? ⟨w.heap.size + 1, 0, none⟩ = some (.int .i64 k) ∧ W.cell? ⟨w.heap.size + 1, 1, none⟩ = some (.int .u64 b) ∧ W.cell? ⟨w.heap.size + 1, 2, none⟩ = some (.int .i64 c2) ∧ W.cell? ⟨w.heap.size + 1, 3, none⟩ = some (.int .u64 o2) ∧ W.cell? ⟨w.heap.size + 1, 4, none⟩ = some (.int .u64 n2) ∧ W.cell? ⟨w.heap.size + 1, 5, none⟩ = some (.string t2)) (fun _ h => h) hHeld ?_; clear hq K; (try simp only [Act.put, List.setIfInBounds_toArray, List.set_cons_zero, List.set_cons_succ]))
              repeat (first | (refine lex_take (v := ?_) rfl (by rfl) (by assumption) ?_ ?_; rotate_left 1; (focus (intro w hSw; (try dsimp only at hSw); go_simp; (try with_reducible rfl))); (try simp only [Act.put, List.setIfInBounds_toArray, List.set_cons_zero, List.set_cons_succ])) | (refine lex_pass rfl (by rfl) (by assumption) ?_; (try simp only [Act.put, List.setIfInBounds_toArray, List.set_cons_zero, List.set_cons_succ])))
              refine lex_end ?_
              refine hR.out _ _ ?_
              clear hR R
              go_wp2_with fail
              refine (hA.out _ q9).mono ?_; rintro e w20 ⟨rfl, hb20⟩
              go_wp2_with fail
              go_ret
              exact ⟨rfl, Below.next_ q9 hb20⟩
            · subst h1 h2 h3
              have hf := five h
              replace h := Lib.hid h
              clear five
              go_upto_region 5 with fail
              refine wp_region_lex [(true, 0), (false, 1), (true, 2), (true, 3), (false, 4), (true, 5), (true, 6), (true, 7), (true, 9), (true, 12), (true, 13), (true, 14), (false, 8), (false, 10), (true, 11), (true, 15), (true, 16)] (fun W : World => W.cell? ⟨w.heap.size, 0, none⟩ = some (.int .i64 k) ∧ W.cell? ⟨w.heap.size, 1, none⟩ = some (.int .u64 b) ∧ W.cell? ⟨w.heap.size, 2, none⟩ = some (.int .i64 c) ∧ W.cell? ⟨w.heap.size, 3, none⟩ = some (.int .u64 o) ∧ W.cell? ⟨w.heap.size, 4, none⟩ = some (.int .u64 n) ∧ W.cell? ⟨w.heap.size, 5, none⟩ = some (.string t) ∧ W.cell? ⟨w.heap.size + 1, 0, none⟩ = some (.int .i64 k) ∧ W.cell? ⟨w.heap.size + 1, 1, none⟩ = some (.int .u64 b) ∧ W.cell? ⟨w.heap.size + 1, 2, none⟩ = some (.int .i64 c) ∧ W.cell? ⟨w.heap.size + 1, 3, none⟩ = some (.int .u64 o2) ∧ W.cell? ⟨w.heap.size + 1, 4, none⟩ = some (.int .u64 n2) ∧ W.cell? ⟨w.heap.size + 1, 5, none⟩ = some (.string t2)) (by kernel_rfl) (by kernel_rfl) (fun R hR => ?_)
              have hHeld : (fun W : World => W.cell? ⟨w.heap.size, 0, none⟩ = some (.int .i64 k) ∧ W.cell? ⟨w.heap.size, 1, none⟩ = some (.int .u64 b) ∧ W.cell? ⟨w.heap.size, 2, none⟩ = some (.int .i64 c) ∧ W.cell? ⟨w.heap.size, 3, none⟩ = some (.int .u64 o) ∧ W.cell? ⟨w.heap.size, 4, none⟩ = some (.int .u64 n) ∧ W.cell? ⟨w.heap.size, 5, none⟩ = some (.string t) ∧ W.cell? ⟨w.heap.size + 1, 0, none⟩ = some (.int .i64 k) ∧ W.cell? ⟨w.heap.size + 1, 1, none⟩ = some (.int .u64 b) ∧ W.cell? ⟨w.heap.size + 1, 2, none⟩ = some (.int .i64 c) ∧ W.cell? ⟨w.heap.size + 1, 3, none⟩ = some (.int .u64 o2) ∧ W.cell? ⟨w.heap.size + 1, 4, none⟩ = some (.int .u64 n2) ∧ W.cell? ⟨w.heap.size + 1, 5, none⟩ = some (.string t2)) w4.drew := hHeld4.out
              have q5 := q4.drew
              have A5 := BX4.out.drew
              have B5 := BY4.out.drew
              clear hHeld4
              repeat (first | (refine lex_take (v := ?_) rfl (by rfl) (by assumption) ?_ ?_; rotate_left 1; (focus (intro w hSw; (try dsimp only at hSw); go_simp; (try with_reducible rfl))); (try simp only [Act.put, List.setIfInBounds_toArray, List.set_cons_zero, List.set_cons_succ])) | (refine lex_pass rfl (by rfl) (by assumption) ?_; (try simp only [Act.put, List.setIfInBounds_toArray, List.set_cons_zero, List.set_cons_succ])))
              (refine lex_call rfl (by rfl) (fun K hq => ?_); go_simp)
              go_at_call 7
              refine (R1.out _).mono ?_; rintro e w6 ⟨rfl, hb6⟩
              have A6 := A5.below hb6 A5.lt
              have B6 := B5.below hb6 B5.lt
              clear hHeld
              have hHeld : (fun W : World => W.cell? ⟨w.heap.size, 0, none⟩ = some (.int .i64 k) ∧ W.cell? ⟨w.heap.size, 1, none⟩ = some (.int .u64 b) ∧ W.cell? ⟨w.heap.size, 2, none⟩ = some (.int .i64 c) ∧ W.cell? ⟨w.heap.size, 3, none⟩ = some (.int .u64 o) ∧ W.cell? ⟨w.heap.size, 4, none⟩ = some (.int .u64 n) ∧ W.cell? ⟨w.heap.size, 5, none⟩ = some (.string t) ∧ W.cell? ⟨w.heap.size + 1, 0, none⟩ = some (.int .i64 k) ∧ W.cell? ⟨w.heap.size + 1, 1, none⟩ = some (.int .u64 b) ∧ W.cell? ⟨w.heap.size + 1, 2, none⟩ = some (.int .i64 c) ∧ W.cell? ⟨w.heap.size + 1, 3, none⟩ = some (.int .u64 o2) ∧ W.cell? ⟨w.heap.size + 1, 4, none⟩ = some (.int .u64 n2) ∧ W.cell? ⟨w.heap.size + 1, 5, none⟩ = some (.string t2)) w6 := ⟨A6.cell 0, A6.cell 1, A6.cell 2, A6.cell 3, A6.cell 4, A6.cell 5, B6.cell 0, B6.cell 1, B6.cell 2, B6.cell 3, B6.cell 4, B6.cell 5⟩
              have q6 := Below.next_ q5 hb6
              clear hb6 A5 B5 q5
              go_wp2_with fail
              (refine hq.out _ _ (fun W : World => W.cell? ⟨w.heap.size, 0, none⟩ = some (.int .i64 k) ∧ W.cell? ⟨w.heap.size, 1, none⟩ = some (.int .u64 b) ∧ W.cell? ⟨w.heap.size, 2, none⟩ = some (.int .i64 c) ∧ W.cell? ⟨w.heap.size, 3, none⟩ = some (.int .u64 o) ∧ W.cell? ⟨w.heap.size, 4, none⟩ = some (.int .u64 n) ∧ W.cell? ⟨w.heap.size, 5, none⟩ = some (.string t) ∧ W.cell? ⟨w.heap.size + 1, 0, none⟩ = some (.int .i64 k) ∧ W.cell? ⟨w.heap.size + 1, 1, none⟩ = some (.int .u64 b) ∧ W.cell? ⟨w.heap.size + 1, 2, none⟩ = some (.int .i64 c) ∧ W.cell? ⟨w.heap.size + 1, 3, none⟩ = some (.int .u64 o2) ∧ W.cell? ⟨w.heap.size + 1, 4, none⟩ = some (.int .u64 n2) ∧ W.cell? ⟨w.heap.size + 1, 5, none⟩ = some (.string t2)) (fun _ h => h) hHeld ?_; clear hq K; (try simp only [Act.put, List.setIfInBounds_toArray, List.set_cons_zero, List.set_cons_succ]))
              repeat (first | (refine lex_take (v := ?_) rfl (by rfl) (by assumption) ?_ ?_; rotate_left 1; (focus (intro w hSw; (try dsimp only at hSw); go_simp; (try with_reducible rfl))); (try simp only [Act.put, List.setIfInBounds_toArray, List.set_cons_zero, List.set_cons_succ])) | (refine lex_pass rfl (by rfl) (by assumption) ?_; (try simp only [Act.put, List.setIfInBounds_toArray, List.set_cons_zero, List.set_cons_succ])))
              (refine lex_call rfl (by rfl) (fun K hq => ?_); go_simp)
              go_at_call 7
              refine (R2.out _).mono ?_; rintro e w7 ⟨rfl, hb7⟩
              have A7 := A6.below hb7 A6.lt
              have B7 := B6.below hb7 B6.lt
              clear hHeld
              have hHeld : (fun W : World => W.cell? ⟨w.heap.size, 0, none⟩ = some (.int .i64 k) ∧ W.cell? ⟨w.heap.size, 1, none⟩ = some (.int .u64 b) ∧ W.cell? ⟨w.heap.size, 2, none⟩ = some (.int .i64 c) ∧ W.cell? ⟨w.heap.size, 3, none⟩ = some (.int .u64 o) ∧ W.cell? ⟨w.heap.size, 4, none⟩ = some (.int .u64 n) ∧ W.cell? ⟨w.heap.size, 5, none⟩ = some (.string t) ∧ W.cell? ⟨w.heap.size + 1, 0, none⟩ = some (.int .i64 k) ∧ W.cell? ⟨w.heap.size + 1, 1, none⟩ = some (.int .u64 b) ∧ W.cell? ⟨w.heap.size + 1, 2, none⟩ = some (.int .i64 c) ∧ W.cell? ⟨w.heap.size + 1, 3, none⟩ = some (.int .u64 o2) ∧ W.cell? ⟨w.heap.size + 1, 4, none⟩ = some (.int .u64 n2) ∧ W.cell? ⟨w.heap.size + 1, 5, none⟩ = some (.string t2)) w7 := ⟨A7.cell 0, A7.cell 1, A7.cell 2, A7.cell 3, A7.cell 4, A7.cell 5, B7.cell 0, B7.cell 1, B7.cell 2, B7.cell 3, B7.cell 4, B7.cell 5⟩
              have q7 := Below.next_ q6 hb7
              clear hb7 A6 B6 q6
              go_wp2_with fail
              (refine hq.out _ _ (fun W : World => W.cell? ⟨w.heap.size, 0, none⟩ = some (.int .i64 k) ∧ W.cell? ⟨w.heap.size, 1, none⟩ = some (.int .u64 b) ∧ W.cell? ⟨w.heap.size, 2, none⟩ = some (.int .i64 c) ∧ W.cell? ⟨w.heap.size, 3, none⟩ = some (.int .u64 o) ∧ W.cell? ⟨w.heap.size, 4, none⟩ = some (.int .u64 n) ∧ W.cell? ⟨w.heap.size, 5, none⟩ = some (.string t) ∧ W.cell? ⟨w.heap.size + 1, 0, none⟩ = some (.int .i64 k) ∧ W.cell? ⟨w.heap.size + 1, 1, none⟩ = some (.int .u64 b) ∧ W.cell? ⟨w.heap.size + 1, 2, none⟩ = some (.int .i64 c) ∧ W.cell? ⟨w.heap.size + 1, 3, none⟩ = some (.int .u64 o2) ∧ W.cell? ⟨w.heap.size + 1, 4, none⟩ = some (.int .u64 n2) ∧ W.cell? ⟨w.heap.size + 1, 5, none⟩ = some (.string t2)) (fun _ h => h) hHeld ?_; clear hq K; (try simp only [Act.put, List.setIfInBounds_toArray, List.set_cons_zero, List.set_cons_succ]))
              repeat (first | (refine lex_take (v := ?_) rfl (by rfl) (by assumption) ?_ ?_; rotate_left 1; (focus (intro w hSw; (try dsimp only at hSw); go_simp; (try with_reducible rfl))); (try simp only [Act.put, List.setIfInBounds_toArray, List.set_cons_zero, List.set_cons_succ])) | (refine lex_pass rfl (by rfl) (by assumption) ?_; (try simp only [Act.put, List.setIfInBounds_toArray, List.set_cons_zero, List.set_cons_succ])))
              (refine lex_call rfl (by rfl) (fun K hq => ?_); go_simp)
              go_at_call 5
              refine (P1.out _ q7).mono ?_; rintro e w8 ⟨rfl, hb8⟩
              have A8 := A7.below hb8 A7.lt
              have B8 := B7.below hb8 B7.lt
              clear hHeld
              have hHeld : (fun W : World => W.cell? ⟨w.heap.size, 0, none⟩ = some (.int .i64 k) ∧ W.cell? ⟨w.heap.size, 1, none⟩ = some (.int .u64 b) ∧ W.cell? ⟨w.heap.size, 2, none⟩ = some (.int .i64 c) ∧ W.cell? ⟨w.heap.size, 3, none⟩ = some (.int .u64 o) ∧ W.cell? ⟨w.heap.size, 4, none⟩ = some (.int .u64 n) ∧ W.cell? ⟨w.heap.size, 5, none⟩ = some (.string t) ∧ W.cell? ⟨w.heap.size + 1, 0, none⟩ = some (.int .i64 k) ∧ W.cell? ⟨w.heap.size + 1, 1, none⟩ = some (.int .u64 b) ∧ W.cell? ⟨w.heap.size + 1, 2, none⟩ = some (.int .i64 c) ∧ W.cell? ⟨w.heap.size + 1, 3, none⟩ = some (.int .u64 o2) ∧ W.cell? ⟨w.heap.size + 1, 4, none⟩ = some (.int .u64 n2) ∧ W.cell? ⟨w.heap.size + 1, 5, none⟩ = some (.string t2)) w8 := ⟨A8.cell 0, A8.cell 1, A8.cell 2, A8.cell 3, A8.cell 4, A8.cell 5, B8.cell 0, B8.cell 1, B8.cell 2, B8.cell 3, B8.cell 4, B8.cell 5⟩
              have q8 := Below.next_ q7 hb8
              clear hb8 A7 B7 q7
              go_wp2_with fail
              (refine hq.out _ _ (fun W : World => W.cell? ⟨w.heap.size, 0, none⟩ = some (.int .i64 k) ∧ W.cell? ⟨w.heap.size, 1, none⟩ = some (.int .u64 b) ∧ W.cell? ⟨w.heap.size, 2, none⟩ = some (.int .i64 c) ∧ W.cell? ⟨w.heap.size, 3, none⟩ = some (.int .u64 o) ∧ W.cell? ⟨w.heap.size, 4, none⟩ = some (.int .u64 n) ∧ W.cell? ⟨w.heap.size, 5, none⟩ = some (.string t) ∧ W.cell? ⟨w.heap.size + 1, 0, none⟩ = some (.int .i64 k) ∧ W.cell? ⟨w.heap.size + 1, 1, none⟩ = some (.int .u64 b) ∧ W.cell? ⟨w.heap.size + 1, 2, none⟩ = some (.int .i64 c) ∧ W.cell? ⟨w.heap.size + 1, 3, none⟩ = some (.int .u64 o2) ∧ W.cell? ⟨w.heap.size + 1, 4, none⟩ = some (.int .u64 n2) ∧ W.cell? ⟨w.heap.size + 1, 5, none⟩ = some (.string t2)) (fun _ h => h) hHeld ?_; clear hq K; (try simp only [Act.put, List.setIfInBounds_toArray, List.set_cons_zero, List.set_cons_succ]))
              repeat (first | (refine lex_take (v := ?_) rfl (by rfl) (by assumption) ?_ ?_; rotate_left 1; (focus (intro w hSw; (try dsimp only at hSw); go_simp; (try with_reducible rfl))); (try simp only [Act.put, List.setIfInBounds_toArray, List.set_cons_zero, List.set_cons_succ])) | (refine lex_pass rfl (by rfl) (by assumption) ?_; (try simp only [Act.put, List.setIfInBounds_toArray, List.set_cons_zero, List.set_cons_succ])))
              (refine lex_call rfl (by rfl) (fun K hq => ?_); go_simp)
              go_at_call 5
              refine (P3.out _ q8).mono ?_; rintro e w9 ⟨rfl, hb9⟩
              have A9 := A8.below hb9 A8.lt
              have B9 := B8.below hb9 B8.lt
              clear hHeld
              have hHeld : (fun W : World => W.cell? ⟨w.heap.size, 0, none⟩ = some (.int .i64 k) ∧ W.cell? ⟨w.heap.size, 1, none⟩ = some (.int .u64 b) ∧ W.cell? ⟨w.heap.size, 2, none⟩ = some (.int .i64 c) ∧ W.cell? ⟨w.heap.size, 3, none⟩ = some (.int .u64 o) ∧ W.cell? ⟨w.heap.size, 4, none⟩ = some (.int .u64 n) ∧ W.cell? ⟨w.heap.size, 5, none⟩ = some (.string t) ∧ W.cell? ⟨w.heap.size + 1, 0, none⟩ = some (.int .i64 k) ∧ W.cell? ⟨w.heap.size + 1, 1, none⟩ = some (.int .u64 b) ∧ W.cell? ⟨w.heap.size + 1, 2, none⟩ = some (.int .i64 c) ∧ W.cell? ⟨w.heap.size + 1, 3, none⟩ = some (.int .u64 o2) ∧ W.cell? ⟨w.heap.size + 1, 4, none⟩ = some (.int .u64 n2) ∧ W.cell? ⟨w.heap.size + 1, 5, none⟩ = some (.string t2)) w9 := ⟨A9.cell 0, A9.cell 1, A9.cell 2, A9.cell 3, A9.cell 4, A9.cell 5, B9.cell 0, B9.cell 1, B9.cell 2, B9.cell 3, B9.cell 4, B9.cell 5⟩
              have q9 := Below.next_ q8 hb9
              clear hb9 A8 B8 q8
              go_wp2_with fail
              (refine hq.out _ _ (fun W : World => W.cell? ⟨w.heap.size, 0, none⟩ = some (.int .i64 k) ∧ W.cell? ⟨w.heap.size, 1, none⟩ = some (.int .u64 b) ∧ W.cell? ⟨w.heap.size, 2, none⟩ = some (.int .i64 c) ∧ W.cell? ⟨w.heap.size, 3, none⟩ = some (.int .u64 o) ∧ W.cell? ⟨w.heap.size, 4, none⟩ = some (.int .u64 n) ∧ W.cell? ⟨w.heap.size, 5, none⟩ = some (.string t) ∧ W.cell? ⟨w.heap.size + 1, 0, none⟩ = some (.int .i64 k) ∧ W.cell? ⟨w.heap.size + 1, 1, none⟩ = some (.int .u64 b) ∧ W.cell? ⟨w.heap.size + 1, 2, none⟩ = some (.int .i64 c) ∧ W.cell? ⟨w.heap.size + 1, 3, none⟩ = some (.int .u64 o2) ∧ W.cell? ⟨w.heap.size + 1, 4, none⟩ = some (.int .u64 n2) ∧ W.cell? ⟨w.heap.size + 1, 5, none⟩ = some (.string t2)) (fun _ h => h) hHeld ?_; clear hq K; (try simp only [Act.put, List.setIfInBounds_toArray, List.set_cons_zero, List.set_cons_succ]))
              repeat (first | (refine lex_take (v := ?_) rfl (by rfl) (by assumption) ?_ ?_; rotate_left 1; (focus (intro w hSw; (try dsimp only at hSw); go_simp; (try with_reducible rfl))); (try simp only [Act.put, List.setIfInBounds_toArray, List.set_cons_zero, List.set_cons_succ])) | (refine lex_pass rfl (by rfl) (by assumption) ?_; (try simp only [Act.put, List.setIfInBounds_toArray, List.set_cons_zero, List.set_cons_succ])))
              refine lex_end ?_
              refine hR.out _ _ ?_
              clear hR R
              go_wp2_with fail
              refine (hA.out _ q9).mono ?_; rintro e w20 ⟨rfl, hb20⟩
              go_wp2_with fail
              go_ret
              exact ⟨rfl, Below.next_ q9 hb20⟩
            · subst h1 h2 h3 h4
              have hf := five h
              replace h := Lib.hid h
              clear five
              go_upto_region 5 with fail
              refine wp_region_lex [(true, 0), (false, 1), (true, 2), (true, 3), (false, 4), (true, 5), (true, 6), (true, 7), (true, 9), (true, 12), (true, 13), (true, 14), (false, 8), (false, 10), (true, 11), (true, 15), (true, 16)] (fun W : World => W.cell? ⟨w.heap.size, 0, none⟩ = some (.int .i64 k) ∧ W.cell? ⟨w.heap.size, 1, none⟩ = some (.int .u64 b) ∧ W.cell? ⟨w.heap.size, 2, none⟩ = some (.int .i64 c) ∧ W.cell? ⟨w.heap.size, 3, none⟩ = some (.int .u64 o) ∧ W.cell? ⟨w.heap.size, 4, none⟩ = some (.int .u64 n) ∧ W.cell? ⟨w.heap.size, 5, none⟩ = some (.string t) ∧ W.cell? ⟨w.heap.size + 1, 0, none⟩ = some (.int .i64 k) ∧ W.cell? ⟨w.heap.size + 1, 1, none⟩ = some (.int .u64 b) ∧ W.cell? ⟨w.heap.size + 1, 2, none⟩ = some (.int .i64 c) ∧ W.cell? ⟨w.heap.size + 1, 3, none⟩ = some (.int .u64 o) ∧ W.cell? ⟨w.heap.size + 1, 4, none⟩ = some (.int .u64 n2) ∧ W.cell? ⟨w.heap.size + 1, 5, none⟩ = some (.string t2)) (by kernel_rfl) (by kernel_rfl) (fun R hR => ?_)
              have hHeld : (fun W : World => W.cell? ⟨w.heap.size, 0, none⟩ = some (.int .i64 k) ∧ W.cell? ⟨w.heap.size, 1, none⟩ = some (.int .u64 b) ∧ W.cell? ⟨w.heap.size, 2, none⟩ = some (.int .i64 c) ∧ W.cell? ⟨w.heap.size, 3, none⟩ = some (.int .u64 o) ∧ W.cell? ⟨w.heap.size, 4, none⟩ = some (.int .u64 n) ∧ W.cell? ⟨w.heap.size, 5, none⟩ = some (.string t) ∧ W.cell? ⟨w.heap.size + 1, 0, none⟩ = some (.int .i64 k) ∧ W.cell? ⟨w.heap.size + 1, 1, none⟩ = some (.int .u64 b) ∧ W.cell? ⟨w.heap.size + 1, 2, none⟩ = some (.int .i64 c) ∧ W.cell? ⟨w.heap.size + 1, 3, none⟩ = some (.int .u64 o) ∧ W.cell? ⟨w.heap.size + 1, 4, none⟩ = some (.int .u64 n2) ∧ W.cell? ⟨w.heap.size + 1, 5, none⟩ = some (.string t2)) w4.drew := hHeld4.out
              have q5 := q4.drew
              have A5 := BX4.out.drew
              have B5 := BY4.out.drew
              clear hHeld4
              repeat (first | (refine lex_take (v := ?_) rfl (by rfl) (by assumption) ?_ ?_; rotate_left 1; (focus (intro w hSw; (try dsimp only at hSw); go_simp; (try with_reducible rfl))); (try simp only [Act.put, List.setIfInBounds_toArray, List.set_cons_zero, List.set_cons_succ])) | (refine lex_pass rfl (by rfl) (by assumption) ?_; (try simp only [Act.put, List.setIfInBounds_toArray, List.set_cons_zero, List.set_cons_succ])))
              (refine lex_call rfl (by rfl) (fun K hq => ?_); go_simp)
              go_at_call 7
              refine (R1.out _).mono ?_; rintro e w6 ⟨rfl, hb6⟩
              have A6 := A5.below hb6 A5.lt
              have B6 := B5.below hb6 B5.lt
              clear hHeld
              have hHeld : (fun W : World => W.cell? ⟨w.heap.size, 0, none⟩ = some (.int .i64 k) ∧ W.cell? ⟨w.heap.size, 1, none⟩ = some (.int .u64 b) ∧ W.cell? ⟨w.heap.size, 2, none⟩ = some (.int .i64 c) ∧ W.cell? ⟨w.heap.size, 3, none⟩ = some (.int .u64 o) ∧ W.cell? ⟨w.heap.size, 4, none⟩ = some (.int .u64 n) ∧ W.cell? ⟨w.heap.size, 5, none⟩ = some (.string t) ∧ W.cell? ⟨w.heap.size + 1, 0, none⟩ = some (.int .i64 k) ∧ W.cell? ⟨w.heap.size + 1, 1, none⟩ = some (.int .u64 b) ∧ W.cell? ⟨w.heap.size + 1, 2, none⟩ = some (.int .i64 c) ∧ W.cell? ⟨w.heap.size + 1, 3, none⟩ = some (.int .u64 o) ∧ W.cell? ⟨w.heap.size + 1, 4, none⟩ = some (.int .u64 n2) ∧ W.cell? ⟨w.heap.size + 1, 5, none⟩ = some (.string t2)) w6 := ⟨A6.cell 0, A6.cell 1, A6.cell 2, A6.cell 3, A6.cell 4, A6.cell 5, B6.cell 0, B6.cell 1, B6.cell 2, B6.cell 3, B6.cell 4, B6.cell 5⟩
              have q6 := Below.next_ q5 hb6
              clear hb6 A5 B5 q5
              go_wp2_with fail
              (refine hq.out _ _ (fun W : World => W.cell? ⟨w.heap.size, 0, none⟩ = some (.int .i64 k) ∧ W.cell? ⟨w.heap.size, 1, none⟩ = some (.int .u64 b) ∧ W.cell? ⟨w.heap.size, 2, none⟩ = some (.int .i64 c) ∧ W.cell? ⟨w.heap.size, 3, none⟩ = some (.int .u64 o) ∧ W.cell? ⟨w.heap.size, 4, none⟩ = some (.int .u64 n) ∧ W.cell? ⟨w.heap.size, 5, none⟩ = some (.string t) ∧ W.cell? ⟨w.heap.size + 1, 0, none⟩ = some (.int .i64 k) ∧ W.cell? ⟨w.heap.size + 1, 1, none⟩ = some (.int .u64 b) ∧ W.cell? ⟨w.heap.size + 1, 2, none⟩ = some (.int .i64 c) ∧ W.cell? ⟨w.heap.size + 1, 3, none⟩ = some (.int .u64 o) ∧ W.cell? ⟨w.heap.size + 1, 4, none⟩ = some (.int .u64 n2) ∧ W.cell? ⟨w.heap.size + 1, 5, none⟩ = some (.string t2)) (fun _ h => h) hHeld ?_; clear hq K; (try simp only [Act.put, List.setIfInBounds_toArray, List.set_cons_zero, List.set_cons_succ]))
              repeat (first | (refine lex_take (v := ?_) rfl (by rfl) (by assumption) ?_ ?_; rotate_left 1; (focus (intro w hSw; (try dsimp only at hSw); go_simp; (try with_reducible rfl))); (try simp only [Act.put, List.setIfInBounds_toArray, List.set_cons_zero, List.set_cons_succ])) | (refine lex_pass rfl (by rfl) (by assumption) ?_; (try simp only [Act.put, List.setIfInBounds_toArray, List.set_cons_zero, List.set_cons_succ])))
              (refine lex_call rfl (by rfl) (fun K hq => ?_); go_simp)
              go_at_call 7
              refine (R2.out _).mono ?_; rintro e w7 ⟨rfl, hb7⟩
              have A7 := A6.below hb7 A6.lt
              have B7 := B6.below hb7 B6.lt
              clear hHeld
              have hHeld : (fun W : World => W.cell? ⟨w.heap.size, 0, none⟩ = some (.int .i64 k) ∧ W.cell? ⟨w.heap.size, 1, none⟩ = some (.int .u64 b) ∧ W.cell? ⟨w.heap.size, 2, none⟩ = some (.int .i64 c) ∧ W.cell? ⟨w.heap.size, 3, none⟩ = some (.int .u64 o) ∧ W.cell? ⟨w.heap.size, 4, none⟩ = some (.int .u64 n) ∧ W.cell? ⟨w.heap.size, 5, none⟩ = some (.string t) ∧ W.cell? ⟨w.heap.size + 1, 0, none⟩ = some (.int .i64 k) ∧ W.cell? ⟨w.heap.size + 1, 1, none⟩ = some (.int .u64 b) ∧ W.cell? ⟨w.heap.size + 1, 2, none⟩ = some (.int .i64 c) ∧ W.cell? ⟨w.heap.size + 1, 3, none⟩ = some (.int .u64 o) ∧ W.cell? ⟨w.heap.size + 1, 4, none⟩ = some (.int .u64 n2) ∧ W.cell? ⟨w.heap.size + 1, 5, none⟩ = some (.string t2)) w7 := ⟨A7.cell 0, A7.cell 1, A7.cell 2, A7.cell 3, A7.cell 4, A7.cell 5, B7.cell 0, B7.cell 1, B7.cell 2, B7.cell 3, B7.cell 4, B7.cell 5⟩
              have q7 := Below.next_ q6 hb7
              clear hb7 A6 B6 q6
              go_wp2_with fail
              (refine hq.out _ _ (fun W : World => W.cell? ⟨w.heap.size, 0, none⟩ = some (.int .i64 k) ∧ W.cell? ⟨w.heap.size, 1, none⟩ = some (.int .u64 b) ∧ W.cell? ⟨w.heap.size, 2, none⟩ = some (.int .i64 c) ∧ W.cell? ⟨w.heap.size, 3, none⟩ = some (.int .u64 o) ∧ W.cell? ⟨w.heap.size, 4, none⟩ = some (.int .u64 n) ∧ W.cell? ⟨w.heap.size, 5, none⟩ = some (.string t) ∧ W.cell? ⟨w.heap.size + 1, 0, none⟩ = some (.int .i64 k) ∧ W.cell? ⟨w.heap.size + 1, 1, none⟩ = some (.int .u64 b) ∧ W.cell? ⟨w.heap.size + 1, 2, none⟩ = some (.int .i64 c) ∧ W.cell? ⟨w.heap.size + 1, 3, none⟩ = some (.int .u64 o) ∧ W.cell? ⟨w.heap.size + 1, 4, none⟩ = some (.int .u64 n2) ∧ W.cell? ⟨w.heap.size + 1, 5, none⟩ = some (.string t2)) (fun _ h => h) hHeld ?_; clear hq K; (try simp only [Act.put, List.setIfInBounds_toArray, List.set_cons_zero, List.set_cons_succ]))
              repeat (first | (refine lex_take (v := ?_) rfl (by rfl) (by assumption) ?_ ?_; rotate_left 1; (focus (intro w hSw; (try dsimp only at hSw); go_simp; (try with_reducible rfl))); (try simp only [Act.put, List.setIfInBounds_toArray, List.set_cons_zero, List.set_cons_succ])) | (refine lex_pass rfl (by rfl) (by assumption) ?_; (try simp only [Act.put, List.setIfInBounds_toArray, List.set_cons_zero, List.set_cons_succ])))
              (refine lex_call rfl (by rfl) (fun K hq => ?_); go_simp)
              go_at_call 5
              refine (P1.out _ q7).mono ?_; rintro e w8 ⟨rfl, hb8⟩
              have A8 := A7.below hb8 A7.lt
              have B8 := B7.below hb8 B7.lt
              clear hHeld
              have hHeld : (fun W : World => W.cell? ⟨w.heap.size, 0, none⟩ = some (.int .i64 k) ∧ W.cell? ⟨w.heap.size, 1, none⟩ = some (.int .u64 b) ∧ W.cell? ⟨w.heap.size, 2, none⟩ = some (.int .i64 c) ∧ W.cell? ⟨w.heap.size, 3, none⟩ = some (.int .u64 o) ∧ W.cell? ⟨w.heap.size, 4, none⟩ = some (.int .u64 n) ∧ W.cell? ⟨w.heap.size, 5, none⟩ = some (.string t) ∧ W.cell? ⟨w.heap.size + 1, 0, none⟩ = some (.int .i64 k) ∧ W.cell? ⟨w.heap.size + 1, 1, none⟩ = some (.int .u64 b) ∧ W.cell? ⟨w.heap.size + 1, 2, none⟩ = some (.int .i64 c) ∧ W.cell? ⟨w.heap.size + 1, 3, none⟩ = some (.int .u64 o) ∧ W.cell? ⟨w.heap.size + 1, 4, none⟩ = some (.int .u64 n2) ∧ W.cell? ⟨w.heap.size + 1, 5, none⟩ = some (.string t2)) w8 := ⟨A8.cell 0, A8.cell 1, A8.cell 2, A8.cell 3, A8.cell 4, A8.cell 5, B8.cell 0, B8.cell 1, B8.cell 2, B8.cell 3, B8.cell 4, B8.cell 5⟩
              have q8 := Below.next_ q7 hb8
              clear hb8 A7 B7 q7
              go_wp2_with fail
              (refine hq.out _ _ (fun W : World => W.cell? ⟨w.heap.size, 0, none⟩ = some (.int .i64 k) ∧ W.cell? ⟨w.heap.size, 1, none⟩ = some (.int .u64 b) ∧ W.cell? ⟨w.heap.size, 2, none⟩ = some (.int .i64 c) ∧ W.cell? ⟨w.heap.size, 3, none⟩ = some (.int .u64 o) ∧ W.cell? ⟨w.heap.size, 4, none⟩ = some (.int .u64 n) ∧ W.cell? ⟨w.heap.size, 5, none⟩ = some (.string t) ∧ W.cell? ⟨w.heap.size + 1, 0, none⟩ = some (.int .i64 k) ∧ W.cell? ⟨w.heap.size + 1, 1, none⟩ = some (.int .u64 b) ∧ W.cell? ⟨w.heap.size + 1, 2, none⟩ = some (.int .i64 c) ∧ W.cell? ⟨w.heap.size + 1, 3, none⟩ = some (.int .u64 o) ∧ W.cell? ⟨w.heap.size + 1, 4, none⟩ = some (.int .u64 n2) ∧ W.cell? ⟨w.heap.size + 1, 5, none⟩ = some (.string t2)) (fun _ h => h) hHeld ?_; clear hq K; (try simp only [Act.put, List.setIfInBounds_toArray, List.set_cons_zero, List.set_cons_succ]))
              repeat (first | (refine lex_take (v := ?_) rfl (by rfl) (by assumption) ?_ ?_; rotate_left 1; (focus (intro w hSw; (try dsimp only at hSw); go_simp; (try with_reducible rfl))); (try simp only [Act.put, List.setIfInBounds_toArray, List.set_cons_zero, List.set_cons_succ])) | (refine lex_pass rfl (by rfl) (by assumption) ?_; (try simp only [Act.put, List.setIfInBounds_toArray, List.set_cons_zero, List.set_cons_succ])))
              (refine lex_call rfl (by rfl) (fun K hq => ?_); go_simp)
              go_at_call 5
              refine (P3.out _ q8).mono ?_; rintro e w9 ⟨rfl, hb9⟩
              have A9 := A8.below hb9 A8.lt
              have B9 := B8.below hb9 B8.lt
              clear hHeld
              have hHeld : (fun W : World => W.cell? ⟨w.heap.size, 0, none⟩ = some (.int .i64 k) ∧ W.cell? ⟨w.heap.size, 1, none⟩ = some (.int .u64 b) ∧ W.cell? ⟨w.heap.size, 2, none⟩ = some (.int .i64 c) ∧ W.cell? ⟨w.heap.size, 3, none⟩ = some (.int .u64 o) ∧ W.cell? ⟨w.heap.size, 4, none⟩ = some (.int .u64 n) ∧ W.cell? ⟨w.heap.size, 5, none⟩ = some (.string t) ∧ W.cell? ⟨w.heap.size + 1, 0, none⟩ = some (.int .i64 k) ∧ W.cell? ⟨w.heap.size + 1, 1, none⟩ = some (.int .u64 b) ∧ W.cell? ⟨w.heap.size + 1, 2, none⟩ = some (.int .i64 c) ∧ W.cell? ⟨w.heap.size + 1, 3, none⟩ = some (.int .u64 o) ∧ W.cell? ⟨w.heap.size + 1, 4, none⟩ = some (.int .u64 n2) ∧ W.cell? ⟨w.heap.size + 1, 5, none⟩ = some (.string t2)) w9 := ⟨A9.cell 0, A9.cell 1, A9.cell 2, A9.cell 3, A9.cell 4, A9.cell 5, B9.cell 0, B9.cell 1, B9.cell 2, B9.cell 3, B9.cell 4, B9.cell 5⟩
              have q9 := Below.next_ q8 hb9
              clear hb9 A8 B8 q8
              go_wp2_with fail
              (refine hq.out _ _ (fun W : World => W.cell? ⟨w.heap.size, 0, none⟩ = some (.int .i64 k) ∧ W.cell? ⟨w.heap.size, 1, none⟩ = some (.int .u64 b) ∧ W.cell? ⟨w.heap.size, 2, none⟩ = some (.int .i64 c) ∧ W.cell? ⟨w.heap.size, 3, none⟩ = some (.int .u64 o) ∧ W.cell? ⟨w.heap.size, 4, none⟩ = some (.int .u64 n) ∧ W.cell? ⟨w.heap.size, 5, none⟩ = some (.string t) ∧ W.cell? ⟨w.heap.size + 1, 0, none⟩ = some (.int .i64 k) ∧ W.cell? ⟨w.heap.size + 1, 1, none⟩ = some (.int .u64 b) ∧ W.cell? ⟨w.heap.size + 1, 2, none⟩ = some (.int .i64 c) ∧ W.cell? ⟨w.heap.size + 1, 3, none⟩ = some (.int .u64 o) ∧ W.cell? ⟨w.heap.size + 1, 4, none⟩ = some (.int .u64 n2) ∧ W.cell? ⟨w.heap.size + 1, 5, none⟩ = some (.string t2)) (fun _ h => h) hHeld ?_; clear hq K; (try simp only [Act.put, List.setIfInBounds_toArray, List.set_cons_zero, List.set_cons_succ]))
              repeat (first | (refine lex_take (v := ?_) rfl (by rfl) (by assumption) ?_ ?_; rotate_left 1; (focus (intro w hSw; (try dsimp only at hSw); go_simp; (try with_reducible rfl))); (try simp only [Act.put, List.setIfInBounds_toArray, List.set_cons_zero, List.set_cons_succ])) | (refine lex_pass rfl (by rfl) (by assumption) ?_; (try simp only [Act.put, List.setIfInBounds_toArray, List.set_cons_zero, List.set_cons_succ])))
              refine lex_end ?_
              refine hR.out _ _ ?_
              clear hR R
              go_wp2_with fail
              refine (hA.out _ q9).mono ?_; rintro e w20 ⟨rfl, hb20⟩
              go_wp2_with fail
              go_ret
              exact ⟨rfl, Below.next_ q9 hb20⟩
            · subst h1 h2 h3 h4 h5
              have hf0 := toList_ne h
              have hf : (t.toList == t2.toList) = false := beq_eq_false_iff_ne.2 hf0
              replace h := Lib.hid h
              clear five
              go_upto_region 5 with fail
              refine wp_region_lex [(true, 0), (false, 1), (true, 2), (true, 3), (false, 4), (true, 5), (true, 6), (true, 7), (true, 9), (true, 12), (true, 13), (true, 14), (false, 8), (false, 10), (true, 11), (true, 15), (true, 16)] (fun W : World => W.cell? ⟨w.heap.size, 0, none⟩ = some (.int .i64 k) ∧ W.cell? ⟨w.heap.size, 1, none⟩ = some (.int .u64 b) ∧ W.cell? ⟨w.heap.size, 2, none⟩ = some (.int .i64 c) ∧ W.cell? ⟨w.heap.size, 3, none⟩ = some (.int .u64 o) ∧ W.cell? ⟨w.heap.size, 4, none⟩ = some (.int .u64 n) ∧ W.cell? ⟨w.heap.size, 5, none⟩ = some (.string t) ∧ W.cell? ⟨w.heap.size + 1, 0, none⟩ = some (.int .i64 k) ∧ W.cell? ⟨w.heap.size + 1, 1, none⟩ = some (.int .u64 b) ∧ W.cell? ⟨w.heap.size + 1, 2, none⟩ = some (.int .i64 c) ∧ W.cell? ⟨w.heap.size + 1, 3, none⟩ = some (.int .u64 o) ∧ W.cell? ⟨w.heap.size + 1, 4, none⟩ = some (.int .u64 n) ∧ W.cell? ⟨w.heap.size + 1, 5, none⟩ = some (.string t2)) (by kernel_rfl) (by kernel_rfl) (fun R hR => ?_)
              have hHeld : (fun W : World => W.cell? ⟨w.heap.size, 0, none⟩ = some (.int .i64 k) ∧ W.cell? ⟨w.heap.size, 1, none⟩ = some (.int .u64 b) ∧ W.cell? ⟨w.heap.size, 2, none⟩ = some (.int .i64 c) ∧ W.cell? ⟨w.heap.size, 3, none⟩ = some (.int .u64 o) ∧ W.cell? ⟨w.heap.size, 4, none⟩ = some (.int .u64 n) ∧ W.cell? ⟨w.heap.size, 5, none⟩ = some (.string t) ∧ W.cell? ⟨w.heap.size + 1, 0, none⟩ = some (.int .i64 k) ∧ W.cell? ⟨w.heap.size + 1, 1, none⟩ = some (.int .u64 b) ∧ W.cell? ⟨w.heap.size + 1, 2, none⟩ = some (.int .i64 c) ∧ W.cell? ⟨w.heap.size + 1, 3, none⟩ = some (.int .u64 o) ∧ W.cell? ⟨w.heap.size + 1, 4, none⟩ = some (.int .u64 n) ∧ W.cell? ⟨w.heap.size + 1, 5, none⟩ = some (.string t2)) w4.drew := hHeld4.out
              have q5 := q4.drew
              have A5 := BX4.out.drew
              have B5 := BY4.out.drew
              clear hHeld4
              repeat (first | (refine lex_take (v := ?_) rfl (by rfl) (by assumption) ?_ ?_; rotate_left 1; (focus (intro w hSw; (try dsimp only at hSw); go_simp; (try with_reducible rfl))); (try simp only [Act.put, List.setIfInBounds_toArray, List.set_cons_zero, List.set_cons_succ])) | (refine lex_pass rfl (by rfl) (by assumption) ?_; (try simp only [Act.put, List.setIfInBounds_toArray, List.set_cons_zero, List.set_cons_succ])))
              (refine lex_call rfl (by rfl) (fun K hq => ?_); go_simp)
              go_at_call 7
              refine (R1.out _).mono ?_; rintro e w6 ⟨rfl, hb6⟩
              have A6 := A5.below hb6 A5.lt
              have B6 := B5.below hb6 B5.lt
              clear hHeld
              have hHeld : (fun W : World => W.cell? ⟨w.heap.size, 0, none⟩ = some (.int .i64 k) ∧ W.cell? ⟨w.heap.size, 1, none⟩ = some (.int .u64 b) ∧ W.cell? ⟨w.heap.size, 2, none⟩ = some (.int .i64 c) ∧ W.cell? ⟨w.heap.size, 3, none⟩ = some (.int .u64 o) ∧ W.cell? ⟨w.heap.size, 4, none⟩ = some (.int .u64 n) ∧ W.cell? ⟨w.heap.size, 5, none⟩ = some (.string t) ∧ W.cell? ⟨w.heap.size + 1, 0, none⟩ = some (.int .i64 k) ∧ W.cell? ⟨w.heap.size + 1, 1, none⟩ = some (.int .u64 b) ∧ W.cell? ⟨w.heap.size + 1, 2, none⟩ = some (.int .i64 c) ∧ W.cell? ⟨w.heap.size + 1, 3, none⟩ = some (.int .u64 o) ∧ W.cell? ⟨w.heap.size + 1, 4, none⟩ = some (.int .u64 n) ∧ W.cell? ⟨w.heap.size + 1, 5, none⟩ = some (.string t2)) w6 := ⟨A6.cell 0, A6.cell 1, A6.cell 2, A6.cell 3, A6.cell 4, A6.cell 5, B6.cell 0, B6.cell 1, B6.cell 2, B6.cell 3, B6.cell 4, B6.cell 5⟩
              have q6 := Below.next_ q5 hb6
              clear hb6 A5 B5 q5
              go_wp2_with fail
              (refine hq.out _ _ (fun W : World => W.cell? ⟨w.heap.size, 0, none⟩ = some (.int .i64 k) ∧ W.cell? ⟨w.heap.size, 1, none⟩ = some (.int .u64 b) ∧ W.cell? ⟨w.heap.size, 2, none⟩ = some (.int .i64 c) ∧ W.cell? ⟨w.heap.size, 3, none⟩ = some (.int .u64 o) ∧ W.cell? ⟨w.heap.size, 4, none⟩ = some (.int .u64 n) ∧ W.cell? ⟨w.heap.size, 5, none⟩ = some (.string t) ∧ W.cell? ⟨w.heap.size + 1, 0, none⟩ = some (.int .i64 k) ∧ W.cell? ⟨w.heap.size + 1, 1, none⟩ = some (.int .u64 b) ∧ W.cell? ⟨w.heap.size + 1, 2, none⟩ = some (.int .i64 c) ∧ W.cell? ⟨w.heap.size + 1, 3, none⟩ = some (.int .u64 o) ∧ W.cell? ⟨w.heap.size + 1, 4, none⟩ = some (.int .u64 n) ∧ W.cell? ⟨w.heap.size + 1, 5, none⟩ = some (.string t2)) (fun _ h => h) hHeld ?_; clear hq K; (try simp only [Act.put, List.setIfInBounds_toArray, List.set_cons_zero, List.set_cons_succ]))
              repeat (first | (refine lex_take (v := ?_) rfl (by rfl) (by assumption) ?_ ?_; rotate_left 1; (focus (intro w hSw; (try dsimp only at hSw); go_simp; (try with_reducible rfl))); (try simp only [Act.put, List.setIfInBounds_toArray, List.set_cons_zero, List.set_cons_succ])) | (refine lex_pass rfl (by rfl) (by assumption) ?_; (try simp only [Act.put, List.setIfInBounds_toArray, List.set_cons_zero, List.set_cons_succ])))
              (refine lex_call rfl (by rfl) (fun K hq => ?_); go_simp)
              go_at_call 7
              refine (R2.out _).mono ?_; rintro e w7 ⟨rfl, hb7⟩
              have A7 := A6.below hb7 A6.lt
              have B7 := B6.below hb7 B6.lt
              clear hHeld
              have hHeld : (fun W : World => W.cell? ⟨w.heap.size, 0, none⟩ = some (.int .i64 k) ∧ W.cell? ⟨w.heap.size, 1, none⟩ = some (.int .u64 b) ∧ W.cell? ⟨w.heap.size, 2, none⟩ = some (.int .i64 c) ∧ W.cell? ⟨w.heap.size, 3, none⟩ = some (.int .u64 o) ∧ W.cell? ⟨w.heap.size, 4, none⟩ = some (.int .u64 n) ∧ W.cell? ⟨w.heap.size, 5, none⟩ = some (.string t) ∧ W.cell? ⟨w.heap.size + 1, 0, none⟩ = some (.int .i64 k) ∧ W.cell? ⟨w.heap.size + 1, 1, none⟩ = some (.int .u64 b) ∧ W.cell? ⟨w.heap.size + 1, 2, none⟩ = some (.int .i64 c) ∧ W.cell? ⟨w.heap.size + 1, 3, none⟩ = some (.int .u64 o) ∧ W.cell? ⟨w.heap.size + 1, 4, none⟩ = some (.int .u64 n) ∧ W.cell? ⟨w.heap.size + 1, 5, none⟩ = some (.string t2)) w7 := ⟨A7.cell 0, A7.cell 1, A7.cell 2, A7.cell 3, A7.cell 4, A7.cell 5, B7.cell 0, B7.cell 1, B7.cell 2, B7.cell 3, B7.cell 4, B7.cell 5⟩
              have q7 := Below.next_ q6 hb7
              clear hb7 A6 B6 q6
              go_wp2_with fail
              (refine hq.out _ _ (fun W : World => W.cell? ⟨w.heap.size, 0, none⟩ = some (.int .i64 k) ∧ W.cell? ⟨w.heap.size, 1, none⟩ = some (.int .u64 b) ∧ W.cell? ⟨w.heap.size, 2, none⟩ = some (.int .i64 c) ∧ W.cell? ⟨w.heap.size, 3, none⟩ = some (.int .u64 o) ∧ W.cell? ⟨w.heap.size, 4, none⟩ = some (.int .u64 n) ∧ W.cell? ⟨w.heap.size, 5, none⟩ = some (.string t) ∧ W.cell? ⟨w.heap.size + 1, 0, none⟩ = some (.int .i64 k) ∧ W.cell? ⟨w.heap.size + 1, 1, none⟩ = some (.int .u64 b) ∧ W.cell? ⟨w.heap.size + 1, 2, none⟩ = some (.int .i64 c) ∧ W.cell? ⟨w.heap.size + 1, 3, none⟩ = some (.int .u64 o) ∧ W.cell? ⟨w.heap.size + 1, 4, none⟩ = some (.int .u64 n) ∧ W.cell? ⟨w.heap.size + 1, 5, none⟩ = some (.string t2)) (fun _ h => h) hHeld ?_; clear hq K; (try simp only [Act.put, List.setIfInBounds_toArray, List.set_cons_zero, List.set_cons_succ]))
              repeat (first | (refine lex_take (v := ?_) rfl (by rfl) (by assumption) ?_ ?_; rotate_left 1; (focus (intro w hSw; (try dsimp only at hSw); go_simp; (try with_reducible rfl))); (try simp only [Act.put, List.setIfInBounds_toArray, List.set_cons_zero, List.set_cons_succ])) | (refine lex_pass rfl (by rfl) (by assumption) ?_; (try simp only [Act.put, List.setIfInBounds_toArray, List.set_cons_zero, List.set_cons_succ])))
              (refine lex_call rfl (by rfl) (fun K hq => ?_); go_simp)
              go_at_call 5
              refine (P1.out _ q7).mono ?_; rintro e w8 ⟨rfl, hb8⟩
              have A8 := A7.below hb8 A7.lt
              have B8 := B7.below hb8 B7.lt
              clear hHeld
              have hHeld : (fun W : World => W.cell? ⟨w.heap.size, 0, none⟩ = some (.int .i64 k) ∧ W.cell? ⟨w.heap.size, 1, none⟩ = some (.int .u64 b) ∧ W.cell? ⟨w.heap.size, 2, none⟩ = some (.int .i64 c) ∧ W.cell? ⟨w.heap.size, 3, none⟩ = some (.int .u64 o) ∧ W.cell? ⟨w.heap.size, 4, none⟩ = some (.int .u64 n) ∧ W.cell? ⟨w.heap.size, 5, none⟩ = some (.string t) ∧ W.cell? ⟨w.heap.size + 1, 0, none⟩ = some (.int .i64 k) ∧ W.cell? ⟨w.heap.size + 1, 1, none⟩ = some (.int .u64 b) ∧ W.cell? ⟨w.heap.size + 1, 2, none⟩ = some (.int .i64 c) ∧ W.cell? ⟨w.heap.size + 1, 3, none⟩ = some (.int .u64 o) ∧ W.cell? ⟨w.heap.size + 1, 4, none⟩ = some (.int .u64 n) ∧ W.cell? ⟨w.heap.size + 1, 5, none⟩ = some (.string t2)) w8 := ⟨A8.cell 0, A8.cell 1, A8.cell 2, A8.cell 3, A8.cell 4, A8.cell 5, B8.cell 0, B8.cell 1, B8.cell 2, B8.cell 3, B8.cell 4, B8.cell 5⟩
              have q8 := Below.next_ q7 hb8
              clear hb8 A7 B7 q7
              go_wp2_with fail
              (refine hq.out _ _ (fun W : World => W.cell? ⟨w.heap.size, 0, none⟩ = some (.int .i64 k) ∧ W.cell? ⟨w.heap.size, 1, none⟩ = some (.int .u64 b) ∧ W.cell? ⟨w.heap.size, 2, none⟩ = some (.int .i64 c) ∧ W.cell? ⟨w.heap.size, 3, none⟩ = some (.int .u64 o) ∧ W.cell? ⟨w.heap.size, 4, none⟩ = some (.int .u64 n) ∧ W.cell? ⟨w.heap.size, 5, none⟩ = some (.string t) ∧ W.cell? ⟨w.heap.size + 1, 0, none⟩ = some (.int .i64 k) ∧ W.cell? ⟨w.heap.size + 1, 1, none⟩ = some (.int .u64 b) ∧ W.cell? ⟨w.heap.size + 1, 2, none⟩ = some (.int .i64 c) ∧ W.cell? ⟨w.heap.size + 1, 3, none⟩ = some (.int .u64 o) ∧ W.cell? ⟨w.heap.size + 1, 4, none⟩ = some (.int .u64 n) ∧ W.cell? ⟨w.heap.size + 1, 5, none⟩ = some (.string t2)) (fun _ h => h) hHeld ?_; clear hq K; (try simp only [Act.put, List.setIfInBounds_toArray, List.set_cons_zero, List.set_cons_succ]))
              repeat (first | (refine lex_take (v := ?_) rfl (by rfl) (by assumption) ?_ ?_; rotate_left 1; (focus (intro w hSw; (try dsimp only at hSw); go_simp; (try with_reducible rfl))); (try simp only [Act.put, List.setIfInBounds_toArray, List.set_cons_zero, List.set_cons_succ])) | (refine lex_pass rfl (by rfl) (by assumption) ?_; (try simp only [Act.put, List.setIfInBounds_toArray, List.set_cons_zero, List.set_cons_succ])))
              (refine lex_call rfl (by rfl) (fun K hq => ?_); go_simp)
              go_at_call 5
              refine (P3.out _ q8).mono ?_; rintro e w9 ⟨rfl, hb9⟩
              have A9 := A8.below hb9 A8.lt
              have B9 := B8.below hb9 B8.lt
              clear hHeld
              have hHeld : (fun W : World => W.cell? ⟨w.heap.size, 0, none⟩ = some (.int .i64 k) ∧ W.cell? ⟨w.heap.size, 1, none⟩ = some (.int .u64 b) ∧ W.cell? ⟨w.heap.size, 2, none⟩ = some (.int .i64 c) ∧ W.cell? ⟨w.heap.size, 3, none⟩ = some (.int .u64 o) ∧ W.cell? ⟨w.heap.size, 4, none⟩ = some (.int .u64 n) ∧ W.cell? ⟨w.heap.size, 5, none⟩ = some (.string t) ∧ W.cell? ⟨w.heap.size + 1, 0, none⟩ = some (.int .i64 k) ∧ W.cell? ⟨w.heap.size + 1, 1, none⟩ = some (.int .u64 b) ∧ W.cell? ⟨w.heap.size + 1, 2, none⟩ = some (.int .i64 c) ∧ W.cell? ⟨w.heap.size + 1, 3, none⟩ = some (.int .u64 o) ∧ W.cell? ⟨w.heap.size + 1, 4, none⟩ = some (.int .u64 n) ∧ W.cell? ⟨w.heap.size + 1, 5, none⟩ = some (.string t2)) w9 := ⟨A9.cell 0, A9.cell 1, A9.cell 2, A9.cell 3, A9.cell 4, A9.cell 5, B9.cell 0, B9.cell 1, B9.cell 2, B9.cell 3, B9.cell 4, B9.cell 5⟩
              have q9 := Below.next_ q8 hb9
              clear hb9 A8 B8 q8
              go_wp2_with fail
              (refine hq.out _ _ (fun W : World => W.cell? ⟨w.heap.size, 0, none⟩ = some (.int .i64 k) ∧ W.cell? ⟨w.heap.size, 1, none⟩ = some (.int .u64 b) ∧ W.cell? ⟨w.heap.size, 2, none⟩ = some (.int .i64 c) ∧ W.cell? ⟨w.heap.size, 3, none⟩ = some (.int .u64 o) ∧ W.cell? ⟨w.heap.size, 4, none⟩ = some (.int .u64 n) ∧ W.cell? ⟨w.heap.size, 5, none⟩ = some (.string t) ∧ W.cell? ⟨w.heap.size + 1, 0, none⟩ = some (.int .i64 k) ∧ W.cell? ⟨w.heap.size + 1, 1, none⟩ = some (.int .u64 b) ∧ W.cell? ⟨w.heap.size + 1, 2, none⟩ = some (.int .i64 c) ∧ W.cell? ⟨w.heap.size + 1, 3, none⟩ = some (.int .u64 o) ∧ W.cell? ⟨w.heap.size + 1, 4, none⟩ = some (.int .u64 n) ∧ W.cell? ⟨w.heap.size + 1, 5, none⟩ = some (.string t2)) (fun _ h => h) hHeld ?_; clear hq K; (try simp only [Act.put, List.setIfInBounds_toArray, List.set_cons_zero, List.set_cons_succ]))
              repeat (first | (refine lex_take (v := ?_) rfl (by rfl) (by assumption) ?_ ?_; rotate_left 1; (focus (intro w hSw; (try dsimp only at hSw); go_simp; (try with_reducible rfl))); (try simp only [Act.put, List.setIfInBounds_toArray, List.set_cons_zero, List.set_cons_succ])) | (refine lex_pass rfl (by rfl) (by assumption) ?_; (try simp only [Act.put, List.setIfInBounds_toArray, List.set_cons_zero, List.set_cons_succ])))
              refine lex_end ?_
              refine hR.out _ _ ?_
              clear hR R
              go_wp2_with fail
              refine (hA.out _ q9).mono ?_; rintro e w20 ⟨rfl, hb20⟩
              go_wp2_with fail
              go_ret
              exact ⟨rfl, Below.next_ q9 hb20⟩
end Go.Proofs.YtmifgjkikbgmiaaDoor
