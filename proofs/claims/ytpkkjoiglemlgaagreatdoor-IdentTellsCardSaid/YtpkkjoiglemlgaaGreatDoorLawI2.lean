/-
  The walks of IdentTells and IdentOrder (layer 12). Where the sentinels, errors.errorType, the table of powers and strconv.ErrRange lie. (Printed by tools/i2.py.)
-/
import Derived.Test.YtpkkjoiglemlgaaGreatDoorIdX
import Derived.Test.YtpkkjoiglemlgaaGreatDoorDigN
import Derived.Test.YtpkkjoiglemlgaaGreatDoorLexH
import Derived.Deep.Cut
namespace Go.Proofs.YtpkkjoiglemlgaaGreatDoor
set_option linter.unusedVariables false
open Go.ChangeShapes Go.WideShapes Go.ChangeAt Go.RowKit Go.Extern.Stop Go.Stop Go.Extern

/-- What lies beside a call: names' blocks, and an error. -/
structure Lay2 (w : World) (sv : Nat → Addr) (l : List (Nat × (Int × Int))) (v : Value) (pl : List Int) (c : Int) (W : World) : Prop where
  below : Below w.heap.size w W
  blk : ∀ b p, (b, p) ∈ l → Blk W b 23 #[.int .i64 p.1, .int .i64 p.2]
  err : NumErr W sv v pl c
theorem Lay2.next {w : World} {sv : Nat → Addr} {l : List (Nat × (Int × Int))} {v : Value} {pl : List Int} {c : Int} {W W' : World} (h : Lay2 w sv l v pl c W) (hb : Below W.heap.size W W') : Lay2 w sv l v pl c W' :=
  ⟨Below.next_ h.below hb, fun b p hm => (h.blk b p hm).below hb (h.blk b p hm).lt, h.err.under hb⟩
theorem Lay2.drew {w : World} {sv : Nat → Addr} {l : List (Nat × (Int × Int))} {v : Value} {pl : List Int} {c : Int} {W : World} (h : Lay2 w sv l v pl c W) : Lay2 w sv l v pl c W.drew := h.next ((Below.refl _ _).drew)
theorem Lay2.cells {w : World} {sv : Nat → Addr} {l : List (Nat × (Int × Int))} {v : Value} {pl : List Int} {c : Int} {W : World} (h : Lay2 w sv l v pl c W) {b : Nat} {p : Int × Int} (hm : (b, p) ∈ l) : W.cell? ⟨b, 0, none⟩ = some (.int .i64 p.1) ∧ W.cell? ⟨b, 1, none⟩ = some (.int .i64 p.2) :=
  ⟨(h.blk b p hm).cell 0, (h.blk b p hm).cell 1⟩
/-- A name more, in a block of its own. -/
theorem Lay2.add {w : World} {sv : Nat → Addr} {l : List (Nat × (Int × Int))} {v : Value} {pl : List Int} {c : Int} {W : World} (h : Lay2 w sv l v pl c W) (x y : Int) :
    Lay2 w sv ((W.heap.size, (x, y)) :: l) v pl c (W.alloc (.cells #[.int .i64 x, .int .i64 y] 23)) := by
  have hb : Below W.heap.size W (W.alloc (.cells #[.int .i64 x, .int .i64 y] 23)) := (Below.refl _ _).alloc (Nat.le_refl _) _
  refine ⟨Below.next_ h.below hb, fun b p hm => ?_, h.err.under hb⟩
  rcases List.mem_cons.1 hm with e | hm
  · injection e with e1 e2
    subst e1 e2
    exact Blk.new W 23 #[.int .i64 x, .int .i64 y]
  · exact (h.blk b p hm).below hb (h.blk b p hm).lt
theorem idLt_self (p : Int × Int) : idLt p p = false := by unfold idLt; simp
theorem idLt_asym {p q : Int × Int} (h : idLt p q = true) : idLt q p = false := by
  unfold idLt at *
  simp only [decide_eq_true_eq, decide_eq_false_iff_not] at *
  omega
theorem idLt_trans {p q r : Int × Int} (h1 : idLt p q = true) (h2 : idLt q r = true) : idLt p r = true := by
  unfold idLt at *
  simp only [decide_eq_true_eq] at *
  omega
theorem idLt_total {p q : Int × Int} (h : p ≠ q) (h1 : idLt p q = false) : idLt q p = true := by
  obtain ⟨a, b⟩ := p
  obtain ⟨c, d⟩ := q
  unfold idLt at *
  simp only [decide_eq_true_eq, decide_eq_false_iff_not] at *
  have h2 : ¬ (a = c ∧ b = d) := fun h3 => h (by rw [h3.1, h3.2])
  omega
theorem iText_len {p : Int × Int} (h : i64ok p) : (iText p).length ≤ 43 := by
  have h1 := itoa_len h.1.1 h.1.2
  have h2 := itoa_len h.2.1 h.2.2
  unfold iText
  simp only [List.length_append, List.length_singleton]
  omega
theorem toListI_ne {s t : ByteArray} (h : s ≠ t) : ¬ s.toList = t.toList := fun e => h (ba_ext (by rw [ByteArray.toList_eq, ByteArray.toList_eq] at e; exact e))
theorem idRight_iff (p : Int × Int) : idRight p = true ↔ (0 ≤ p.1 ∧ p.1 ≤ 255 ∧ 1 ≤ p.2 ∧ p.2 ≤ 4294967296) := by
  unfold idRight
  simp only [Bool.and_eq_true, decide_eq_true_eq]
  omega
set_option maxHeartbeats 4000000 in
set_option maxRecDepth 100000 in
theorem identTells_any {w : World} {sv : Nat → Addr} (S : Sent w sv) (T : ETy w) (htab : PTb w) (hR : RgV w) (x y x2 y2 : Int) (hx : idOk (x, y)) (hy : idOk (x2, y2)) (s : ByteArray) :
    Calls Tryz.prog 3 #[.agg #[.int .i64 x, .int .i64 y], .agg #[.int .i64 x2, .int .i64 y2], .string s] w fun e w' => e = .returned (.bool true) ∧ Below w.heap.size w w' := by
  have hAw := fun W (h : Below w.heap.size w W) => awake12_any (S.below h) (T.below h) (htab.below h)
  have hPr := fun W (h : Below w.heap.size w W) => idPrint_any (htab.below h) x y hx.1.1 hx.1.2 hx.2.1 hx.2.2
  have hPs := fun W => refIdPrint_any W x y hx.1.1 hx.1.2 hx.2.1 hx.2.2
  have hPa := fun W (h : Below w.heap.size w W) (hs : s.size ≤ 200) => idParse_any (S.below h) (T.below h) (hR.below h) s (by omega)
  have hPb := fun W (hs : s.size ≤ 200) => refIdParse_any s (by omega) W
  have hWr := fun W (h : Below w.heap.size w W) v c a pt hv => wrong12_any (S.below h) (T.below h) v c a pt hv
  have hd2 : Below w.heap.size w ((w.alloc (.cells #[.int .i64 x, .int .i64 y] 23)).alloc (.cells #[.int .i64 x2, .int .i64 y2] 23)) := ((Below.refl _ _).alloc (Nat.le_refl _) _).alloc (by simp) _
  replace hAw := Lib.hid hAw
  replace hPr := Lib.hid hPr
  replace hPs := Lib.hid hPs
  replace hWr := Lib.hid hWr
  clear S T htab hR hx hy
  by_cases hn : 200 < s.size
  · have hd : decide ((200 : Int) < s.size) = true := decide_eq_true (by omega)
    replace hPa := Lib.hid hPa
    replace hPb := Lib.hid hPb
    go_enter Tryz.func3, Tryz.ntmps3
    go_wp2_with fail
    refine (hAw.out _ hd2).mono ?_; rintro e w1 ⟨rfl, hb⟩
    go_wp2_with fail
    go_ret
    exact ⟨rfl, Below.next_ hd2 hb⟩
  have hd : decide ((200 : Int) < s.size) = false := decide_eq_false (by omega)
  replace hPa := fun W h => hPa W h (by omega)
  replace hPb := fun W => hPb W (by omega)
  unfold idPl idTold at *
  generalize pId s.data.toList = P at *
  obtain ⟨⟨n1, n2⟩, c, a, pt⟩ := P
  simp only at hPa hPb
  replace hPa := Lib.hid hPa
  replace hPb := Lib.hid hPb
  have BX := (Blk.new w 23 #[.int .i64 x, .int .i64 y]).alloc (.cells #[.int .i64 x2, .int .i64 y2] 23)
  have BY := Blk.new (w.alloc (.cells #[.int .i64 x, .int .i64 y] 23)) 23 #[.int .i64 x2, .int .i64 y2]
  rw [show (w.alloc (.cells #[.int .i64 x, .int .i64 y] 23)).heap.size = w.heap.size + 1 by simp] at BY
  have L0 : Lay2 w sv [(w.heap.size, (x, y)), (w.heap.size + 1, (x2, y2))] .nilIface [] 0 ((w.alloc (.cells #[.int .i64 x, .int .i64 y] 23)).alloc (.cells #[.int .i64 x2, .int .i64 y2] 23)) := ⟨hd2, fun b p hm => by
    rcases List.mem_cons.1 hm with e | hm
    · injection e with e1 e2
      subst e1 e2
      exact BX
    · obtain e := List.mem_singleton.1 hm
      injection e with e1 e2
      subst e1 e2
      exact BY, .inl ⟨rfl, rfl⟩⟩
  clear BX BY
  replace hd2 := Lib.hid hd2
  replace L0 := Lib.hid L0
  go_enter Tryz.func3, Tryz.ntmps3
  go_wp2_with fail
  refine (hPa.out _ hd2.out).mono ?_; rintro e w1 ⟨v, rfl, hv, hb⟩
  have L1 : Lay2 w sv [(w.heap.size, (x, y)), (w.heap.size + 1, (x2, y2))] v (if pt < 0 then [a] else [pt, a]) c w1 := ⟨(L0.out.next hb).below, (L0.out.next hb).blk, hv⟩
  replace L1 := Lib.hid L1
  clear hv hb
  go_upto_region 4 with fail
  refine worldI (α := fun W' => Code.wp _ _ _ _ W') (Lay2 w sv [(w1.heap.size, (n1, n2)), (w.heap.size, (x, y)), (w.heap.size + 1, (x2, y2))] v (if pt < 0 then [a] else [pt, a]) c) (L1.out.add n1 n2) fun W2 L2 => ?_
  replace L2 := Lib.hid L2
  go_wp2_with fail
  refine (hPb.out _).mono ?_; rintro e w3 ⟨rfl, hb⟩
  have L3 := L2.out.next hb
  replace L3 := Lib.hid L3
  clear hb
  go_upto_region 5 with fail
  refine worldI (α := fun W' => Code.wp _ _ _ _ W') (Lay2 w sv [(w3.heap.size, (n1, n2)), (w1.heap.size, (n1, n2)), (w.heap.size, (x, y)), (w.heap.size + 1, (x2, y2))] v (if pt < 0 then [a] else [pt, a]) c) (L3.out.add n1 n2) fun W4 L4 => ?_
  obtain ⟨rx, hrx⟩ : ∃ r, idRight (x, y) = r := ⟨_, rfl⟩
  obtain ⟨bx, hbx⟩ : ∃ r, idLt (x, y) (x2, y2) = r := ⟨_, rfl⟩
  replace L4 := Lib.hid L4
  refine wp_region_lex [(true, 0), (true, 2), (false, 1), (false, 3), (true, 4), (true, 5), (true, 6), (true, 7), (true, 9), (true, 10), (false, 8), (false, 11), (true, 12), (true, 13), (true, 14), (true, 15), (true, 17), (false, 16), (false, 18), (true, 19), (true, 20), (true, 21), (true, 22), (true, 23), (true, 24), (true, 25), (true, 26), (true, 27), (true, 28), (true, 29), (true, 30), (false, 31), (true, 32), (true, 33), (false, 34), (true, 35), (true, 36)] (fun W : World => (W.cell? ⟨w3.heap.size, 0, none⟩ = some (.int .i64 n1) ∧ W.cell? ⟨w3.heap.size, 1, none⟩ = some (.int .i64 n2)) ∧ (W.cell? ⟨w1.heap.size, 0, none⟩ = some (.int .i64 n1) ∧ W.cell? ⟨w1.heap.size, 1, none⟩ = some (.int .i64 n2)) ∧ (W.cell? ⟨w.heap.size, 0, none⟩ = some (.int .i64 x) ∧ W.cell? ⟨w.heap.size, 1, none⟩ = some (.int .i64 y)) ∧ (W.cell? ⟨(w.heap.size + 1), 0, none⟩ = some (.int .i64 x2) ∧ W.cell? ⟨(w.heap.size + 1), 1, none⟩ = some (.int .i64 y2))) (by kernel_rfl) (by kernel_rfl) (fun R hR => ?_)
  have q0 := (L4.out).drew
  have hHeld : (fun W : World => (W.cell? ⟨w3.heap.size, 0, none⟩ = some (.int .i64 n1) ∧ W.cell? ⟨w3.heap.size, 1, none⟩ = some (.int .i64 n2)) ∧ (W.cell? ⟨w1.heap.size, 0, none⟩ = some (.int .i64 n1) ∧ W.cell? ⟨w1.heap.size, 1, none⟩ = some (.int .i64 n2)) ∧ (W.cell? ⟨w.heap.size, 0, none⟩ = some (.int .i64 x) ∧ W.cell? ⟨w.heap.size, 1, none⟩ = some (.int .i64 y)) ∧ (W.cell? ⟨(w.heap.size + 1), 0, none⟩ = some (.int .i64 x2) ∧ W.cell? ⟨(w.heap.size + 1), 1, none⟩ = some (.int .i64 y2))) _ := ⟨q0.cells (b := w3.heap.size) (p := (n1, n2)) (by simp), q0.cells (b := w1.heap.size) (p := (n1, n2)) (by simp), q0.cells (b := w.heap.size) (p := (x, y)) (by simp), q0.cells (b := (w.heap.size + 1)) (p := (x2, y2)) (by simp)⟩
  replace q0 := Lib.hid q0
  repeat (first | (refine lex_take (v := ?_) rfl (by rfl) (by assumption) ?_ ?_; rotate_left 1; (focus (intro w hSw; (try dsimp only at hSw); go_simp; (try with_reducible rfl))); (try simp only [Act.put, List.setIfInBounds_toArray, List.set_cons_zero, List.set_cons_succ])) | (refine lex_pass rfl (by rfl) (by assumption) ?_; (try simp only [Act.put, List.setIfInBounds_toArray, List.set_cons_zero, List.set_cons_succ])))
  (refine lex_call rfl (by rfl) (fun K hq => ?_); go_simp)
  go_at_call 11
  refine (idRight_any _ x y).mono ?_; rintro e v1 ⟨rfl, hb1⟩
  have q1 := Lay2.next q0.out hb1
  clear hHeld hb1 q0
  have hHeld : (fun W : World => (W.cell? ⟨w3.heap.size, 0, none⟩ = some (.int .i64 n1) ∧ W.cell? ⟨w3.heap.size, 1, none⟩ = some (.int .i64 n2)) ∧ (W.cell? ⟨w1.heap.size, 0, none⟩ = some (.int .i64 n1) ∧ W.cell? ⟨w1.heap.size, 1, none⟩ = some (.int .i64 n2)) ∧ (W.cell? ⟨w.heap.size, 0, none⟩ = some (.int .i64 x) ∧ W.cell? ⟨w.heap.size, 1, none⟩ = some (.int .i64 y)) ∧ (W.cell? ⟨(w.heap.size + 1), 0, none⟩ = some (.int .i64 x2) ∧ W.cell? ⟨(w.heap.size + 1), 1, none⟩ = some (.int .i64 y2))) v1 := ⟨q1.cells (b := w3.heap.size) (p := (n1, n2)) (by simp), q1.cells (b := w1.heap.size) (p := (n1, n2)) (by simp), q1.cells (b := w.heap.size) (p := (x, y)) (by simp), q1.cells (b := (w.heap.size + 1)) (p := (x2, y2)) (by simp)⟩
  replace q1 := Lib.hid q1
  go_wp2_with fail
  (refine hq.out _ _ (fun W : World => (W.cell? ⟨w3.heap.size, 0, none⟩ = some (.int .i64 n1) ∧ W.cell? ⟨w3.heap.size, 1, none⟩ = some (.int .i64 n2)) ∧ (W.cell? ⟨w1.heap.size, 0, none⟩ = some (.int .i64 n1) ∧ W.cell? ⟨w1.heap.size, 1, none⟩ = some (.int .i64 n2)) ∧ (W.cell? ⟨w.heap.size, 0, none⟩ = some (.int .i64 x) ∧ W.cell? ⟨w.heap.size, 1, none⟩ = some (.int .i64 y)) ∧ (W.cell? ⟨(w.heap.size + 1), 0, none⟩ = some (.int .i64 x2) ∧ W.cell? ⟨(w.heap.size + 1), 1, none⟩ = some (.int .i64 y2))) (fun _ h => h) hHeld ?_; clear hq K; (try simp only [Act.put, List.setIfInBounds_toArray, List.set_cons_zero, List.set_cons_succ]))
  repeat (first | (refine lex_take (v := ?_) rfl (by rfl) (by assumption) ?_ ?_; rotate_left 1; (focus (intro w hSw; (try dsimp only at hSw); go_simp; (try with_reducible rfl))); (try simp only [Act.put, List.setIfInBounds_toArray, List.set_cons_zero, List.set_cons_succ])) | (refine lex_pass rfl (by rfl) (by assumption) ?_; (try simp only [Act.put, List.setIfInBounds_toArray, List.set_cons_zero, List.set_cons_succ])))
  (refine lex_call rfl (by rfl) (fun K hq => ?_); go_simp)
  go_at_call 12
  refine (refRightI_any _ x y).mono ?_; rintro e v2 ⟨rfl, hb2⟩
  have q2 := Lay2.next q1.out hb2
  clear hHeld hb2 q1
  have hHeld : (fun W : World => (W.cell? ⟨w3.heap.size, 0, none⟩ = some (.int .i64 n1) ∧ W.cell? ⟨w3.heap.size, 1, none⟩ = some (.int .i64 n2)) ∧ (W.cell? ⟨w1.heap.size, 0, none⟩ = some (.int .i64 n1) ∧ W.cell? ⟨w1.heap.size, 1, none⟩ = some (.int .i64 n2)) ∧ (W.cell? ⟨w.heap.size, 0, none⟩ = some (.int .i64 x) ∧ W.cell? ⟨w.heap.size, 1, none⟩ = some (.int .i64 y)) ∧ (W.cell? ⟨(w.heap.size + 1), 0, none⟩ = some (.int .i64 x2) ∧ W.cell? ⟨(w.heap.size + 1), 1, none⟩ = some (.int .i64 y2))) v2 := ⟨q2.cells (b := w3.heap.size) (p := (n1, n2)) (by simp), q2.cells (b := w1.heap.size) (p := (n1, n2)) (by simp), q2.cells (b := w.heap.size) (p := (x, y)) (by simp), q2.cells (b := (w.heap.size + 1)) (p := (x2, y2)) (by simp)⟩
  replace q2 := Lib.hid q2
  go_wp2_with fail
  (refine hq.out _ _ (fun W : World => (W.cell? ⟨w3.heap.size, 0, none⟩ = some (.int .i64 n1) ∧ W.cell? ⟨w3.heap.size, 1, none⟩ = some (.int .i64 n2)) ∧ (W.cell? ⟨w1.heap.size, 0, none⟩ = some (.int .i64 n1) ∧ W.cell? ⟨w1.heap.size, 1, none⟩ = some (.int .i64 n2)) ∧ (W.cell? ⟨w.heap.size, 0, none⟩ = some (.int .i64 x) ∧ W.cell? ⟨w.heap.size, 1, none⟩ = some (.int .i64 y)) ∧ (W.cell? ⟨(w.heap.size + 1), 0, none⟩ = some (.int .i64 x2) ∧ W.cell? ⟨(w.heap.size + 1), 1, none⟩ = some (.int .i64 y2))) (fun _ h => h) hHeld ?_; clear hq K; (try simp only [Act.put, List.setIfInBounds_toArray, List.set_cons_zero, List.set_cons_succ]))
  repeat (first | (refine lex_take (v := ?_) rfl (by rfl) (by assumption) ?_ ?_; rotate_left 1; (focus (intro w hSw; (try dsimp only at hSw); go_simp; (try with_reducible rfl))); (try simp only [Act.put, List.setIfInBounds_toArray, List.set_cons_zero, List.set_cons_succ])) | (refine lex_pass rfl (by rfl) (by assumption) ?_; (try simp only [Act.put, List.setIfInBounds_toArray, List.set_cons_zero, List.set_cons_succ])))
  (refine lex_call rfl (by rfl) (fun K hq => ?_); go_simp)
  go_at_call 13
  refine (before_any x y x2 y2 _).mono ?_; rintro e v3 ⟨rfl, hb3⟩
  have q3 := Lay2.next q2.out hb3
  clear hHeld hb3 q2
  have hHeld : (fun W : World => (W.cell? ⟨w3.heap.size, 0, none⟩ = some (.int .i64 n1) ∧ W.cell? ⟨w3.heap.size, 1, none⟩ = some (.int .i64 n2)) ∧ (W.cell? ⟨w1.heap.size, 0, none⟩ = some (.int .i64 n1) ∧ W.cell? ⟨w1.heap.size, 1, none⟩ = some (.int .i64 n2)) ∧ (W.cell? ⟨w.heap.size, 0, none⟩ = some (.int .i64 x) ∧ W.cell? ⟨w.heap.size, 1, none⟩ = some (.int .i64 y)) ∧ (W.cell? ⟨(w.heap.size + 1), 0, none⟩ = some (.int .i64 x2) ∧ W.cell? ⟨(w.heap.size + 1), 1, none⟩ = some (.int .i64 y2))) v3 := ⟨q3.cells (b := w3.heap.size) (p := (n1, n2)) (by simp), q3.cells (b := w1.heap.size) (p := (n1, n2)) (by simp), q3.cells (b := w.heap.size) (p := (x, y)) (by simp), q3.cells (b := (w.heap.size + 1)) (p := (x2, y2)) (by simp)⟩
  replace q3 := Lib.hid q3
  go_wp2_with fail
  (refine hq.out _ _ (fun W : World => (W.cell? ⟨w3.heap.size, 0, none⟩ = some (.int .i64 n1) ∧ W.cell? ⟨w3.heap.size, 1, none⟩ = some (.int .i64 n2)) ∧ (W.cell? ⟨w1.heap.size, 0, none⟩ = some (.int .i64 n1) ∧ W.cell? ⟨w1.heap.size, 1, none⟩ = some (.int .i64 n2)) ∧ (W.cell? ⟨w.heap.size, 0, none⟩ = some (.int .i64 x) ∧ W.cell? ⟨w.heap.size, 1, none⟩ = some (.int .i64 y)) ∧ (W.cell? ⟨(w.heap.size + 1), 0, none⟩ = some (.int .i64 x2) ∧ W.cell? ⟨(w.heap.size + 1), 1, none⟩ = some (.int .i64 y2))) (fun _ h => h) hHeld ?_; clear hq K; (try simp only [Act.put, List.setIfInBounds_toArray, List.set_cons_zero, List.set_cons_succ]))
  repeat (first | (refine lex_take (v := ?_) rfl (by rfl) (by assumption) ?_ ?_; rotate_left 1; (focus (intro w hSw; (try dsimp only at hSw); go_simp; (try with_reducible rfl))); (try simp only [Act.put, List.setIfInBounds_toArray, List.set_cons_zero, List.set_cons_succ])) | (refine lex_pass rfl (by rfl) (by assumption) ?_; (try simp only [Act.put, List.setIfInBounds_toArray, List.set_cons_zero, List.set_cons_succ])))
  (refine lex_call rfl (by rfl) (fun K hq => ?_); go_simp)
  go_at_call 14
  refine (refBefore_any x y x2 y2 _).mono ?_; rintro e v4 ⟨rfl, hb4⟩
  have q4 := Lay2.next q3.out hb4
  clear hHeld hb4 q3
  have hHeld : (fun W : World => (W.cell? ⟨w3.heap.size, 0, none⟩ = some (.int .i64 n1) ∧ W.cell? ⟨w3.heap.size, 1, none⟩ = some (.int .i64 n2)) ∧ (W.cell? ⟨w1.heap.size, 0, none⟩ = some (.int .i64 n1) ∧ W.cell? ⟨w1.heap.size, 1, none⟩ = some (.int .i64 n2)) ∧ (W.cell? ⟨w.heap.size, 0, none⟩ = some (.int .i64 x) ∧ W.cell? ⟨w.heap.size, 1, none⟩ = some (.int .i64 y)) ∧ (W.cell? ⟨(w.heap.size + 1), 0, none⟩ = some (.int .i64 x2) ∧ W.cell? ⟨(w.heap.size + 1), 1, none⟩ = some (.int .i64 y2))) v4 := ⟨q4.cells (b := w3.heap.size) (p := (n1, n2)) (by simp), q4.cells (b := w1.heap.size) (p := (n1, n2)) (by simp), q4.cells (b := w.heap.size) (p := (x, y)) (by simp), q4.cells (b := (w.heap.size + 1)) (p := (x2, y2)) (by simp)⟩
  replace q4 := Lib.hid q4
  go_wp2_with fail
  (refine hq.out _ _ (fun W : World => (W.cell? ⟨w3.heap.size, 0, none⟩ = some (.int .i64 n1) ∧ W.cell? ⟨w3.heap.size, 1, none⟩ = some (.int .i64 n2)) ∧ (W.cell? ⟨w1.heap.size, 0, none⟩ = some (.int .i64 n1) ∧ W.cell? ⟨w1.heap.size, 1, none⟩ = some (.int .i64 n2)) ∧ (W.cell? ⟨w.heap.size, 0, none⟩ = some (.int .i64 x) ∧ W.cell? ⟨w.heap.size, 1, none⟩ = some (.int .i64 y)) ∧ (W.cell? ⟨(w.heap.size + 1), 0, none⟩ = some (.int .i64 x2) ∧ W.cell? ⟨(w.heap.size + 1), 1, none⟩ = some (.int .i64 y2))) (fun _ h => h) hHeld ?_; clear hq K; (try simp only [Act.put, List.setIfInBounds_toArray, List.set_cons_zero, List.set_cons_succ]))
  repeat (first | (refine lex_take (v := ?_) rfl (by rfl) (by assumption) ?_ ?_; rotate_left 1; (focus (intro w hSw; (try dsimp only at hSw); go_simp; (try with_reducible rfl))); (try simp only [Act.put, List.setIfInBounds_toArray, List.set_cons_zero, List.set_cons_succ])) | (refine lex_pass rfl (by rfl) (by assumption) ?_; (try simp only [Act.put, List.setIfInBounds_toArray, List.set_cons_zero, List.set_cons_succ])))
  (refine lex_call rfl (by rfl) (fun K hq => ?_); go_simp)
  go_at_call 15
  refine (hPr.out _ q4.out.below).mono ?_; rintro e v5 ⟨rfl, hb5⟩
  have q5 := Lay2.next q4.out hb5
  clear hHeld hb5 q4
  have hHeld : (fun W : World => (W.cell? ⟨w3.heap.size, 0, none⟩ = some (.int .i64 n1) ∧ W.cell? ⟨w3.heap.size, 1, none⟩ = some (.int .i64 n2)) ∧ (W.cell? ⟨w1.heap.size, 0, none⟩ = some (.int .i64 n1) ∧ W.cell? ⟨w1.heap.size, 1, none⟩ = some (.int .i64 n2)) ∧ (W.cell? ⟨w.heap.size, 0, none⟩ = some (.int .i64 x) ∧ W.cell? ⟨w.heap.size, 1, none⟩ = some (.int .i64 y)) ∧ (W.cell? ⟨(w.heap.size + 1), 0, none⟩ = some (.int .i64 x2) ∧ W.cell? ⟨(w.heap.size + 1), 1, none⟩ = some (.int .i64 y2))) v5 := ⟨q5.cells (b := w3.heap.size) (p := (n1, n2)) (by simp), q5.cells (b := w1.heap.size) (p := (n1, n2)) (by simp), q5.cells (b := w.heap.size) (p := (x, y)) (by simp), q5.cells (b := (w.heap.size + 1)) (p := (x2, y2)) (by simp)⟩
  replace q5 := Lib.hid q5
  go_wp2_with fail
  (refine hq.out _ _ (fun W : World => (W.cell? ⟨w3.heap.size, 0, none⟩ = some (.int .i64 n1) ∧ W.cell? ⟨w3.heap.size, 1, none⟩ = some (.int .i64 n2)) ∧ (W.cell? ⟨w1.heap.size, 0, none⟩ = some (.int .i64 n1) ∧ W.cell? ⟨w1.heap.size, 1, none⟩ = some (.int .i64 n2)) ∧ (W.cell? ⟨w.heap.size, 0, none⟩ = some (.int .i64 x) ∧ W.cell? ⟨w.heap.size, 1, none⟩ = some (.int .i64 y)) ∧ (W.cell? ⟨(w.heap.size + 1), 0, none⟩ = some (.int .i64 x2) ∧ W.cell? ⟨(w.heap.size + 1), 1, none⟩ = some (.int .i64 y2))) (fun _ h => h) hHeld ?_; clear hq K; (try simp only [Act.put, List.setIfInBounds_toArray, List.set_cons_zero, List.set_cons_succ]))
  repeat (first | (refine lex_take (v := ?_) rfl (by rfl) (by assumption) ?_ ?_; rotate_left 1; (focus (intro w hSw; (try dsimp only at hSw); go_simp; (try with_reducible rfl))); (try simp only [Act.put, List.setIfInBounds_toArray, List.set_cons_zero, List.set_cons_succ])) | (refine lex_pass rfl (by rfl) (by assumption) ?_; (try simp only [Act.put, List.setIfInBounds_toArray, List.set_cons_zero, List.set_cons_succ])))
  (refine lex_call rfl (by rfl) (fun K hq => ?_); go_simp)
  go_at_call 16
  refine (hPs.out _).mono ?_; rintro e v6 ⟨rfl, hb6⟩
  have q6 := Lay2.next q5.out hb6
  clear hHeld hb6 q5
  have hHeld : (fun W : World => (W.cell? ⟨w3.heap.size, 0, none⟩ = some (.int .i64 n1) ∧ W.cell? ⟨w3.heap.size, 1, none⟩ = some (.int .i64 n2)) ∧ (W.cell? ⟨w1.heap.size, 0, none⟩ = some (.int .i64 n1) ∧ W.cell? ⟨w1.heap.size, 1, none⟩ = some (.int .i64 n2)) ∧ (W.cell? ⟨w.heap.size, 0, none⟩ = some (.int .i64 x) ∧ W.cell? ⟨w.heap.size, 1, none⟩ = some (.int .i64 y)) ∧ (W.cell? ⟨(w.heap.size + 1), 0, none⟩ = some (.int .i64 x2) ∧ W.cell? ⟨(w.heap.size + 1), 1, none⟩ = some (.int .i64 y2))) v6 := ⟨q6.cells (b := w3.heap.size) (p := (n1, n2)) (by simp), q6.cells (b := w1.heap.size) (p := (n1, n2)) (by simp), q6.cells (b := w.heap.size) (p := (x, y)) (by simp), q6.cells (b := (w.heap.size + 1)) (p := (x2, y2)) (by simp)⟩
  replace q6 := Lib.hid q6
  go_wp2_with fail
  (refine hq.out _ _ (fun W : World => (W.cell? ⟨w3.heap.size, 0, none⟩ = some (.int .i64 n1) ∧ W.cell? ⟨w3.heap.size, 1, none⟩ = some (.int .i64 n2)) ∧ (W.cell? ⟨w1.heap.size, 0, none⟩ = some (.int .i64 n1) ∧ W.cell? ⟨w1.heap.size, 1, none⟩ = some (.int .i64 n2)) ∧ (W.cell? ⟨w.heap.size, 0, none⟩ = some (.int .i64 x) ∧ W.cell? ⟨w.heap.size, 1, none⟩ = some (.int .i64 y)) ∧ (W.cell? ⟨(w.heap.size + 1), 0, none⟩ = some (.int .i64 x2) ∧ W.cell? ⟨(w.heap.size + 1), 1, none⟩ = some (.int .i64 y2))) (fun _ h => h) hHeld ?_; clear hq K; (try simp only [Act.put, List.setIfInBounds_toArray, List.set_cons_zero, List.set_cons_succ]))
  repeat (first | (refine lex_take (v := ?_) rfl (by rfl) (by assumption) ?_ ?_; rotate_left 1; (focus (intro w hSw; (try dsimp only at hSw); go_simp; (try with_reducible rfl))); (try simp only [Act.put, List.setIfInBounds_toArray, List.set_cons_zero, List.set_cons_succ])) | (refine lex_pass rfl (by rfl) (by assumption) ?_; (try simp only [Act.put, List.setIfInBounds_toArray, List.set_cons_zero, List.set_cons_succ])))
  (refine lex_call rfl (by rfl) (fun K hq => ?_); go_simp)
  go_at_call 17
  refine (hWr.out _ q6.out.below v c a pt q6.out.err).mono ?_; rintro e v7 ⟨rfl, hb7⟩
  have q7 := Lay2.next q6.out hb7
  clear hHeld hb7 q6
  have hHeld : (fun W : World => (W.cell? ⟨w3.heap.size, 0, none⟩ = some (.int .i64 n1) ∧ W.cell? ⟨w3.heap.size, 1, none⟩ = some (.int .i64 n2)) ∧ (W.cell? ⟨w1.heap.size, 0, none⟩ = some (.int .i64 n1) ∧ W.cell? ⟨w1.heap.size, 1, none⟩ = some (.int .i64 n2)) ∧ (W.cell? ⟨w.heap.size, 0, none⟩ = some (.int .i64 x) ∧ W.cell? ⟨w.heap.size, 1, none⟩ = some (.int .i64 y)) ∧ (W.cell? ⟨(w.heap.size + 1), 0, none⟩ = some (.int .i64 x2) ∧ W.cell? ⟨(w.heap.size + 1), 1, none⟩ = some (.int .i64 y2))) v7 := ⟨q7.cells (b := w3.heap.size) (p := (n1, n2)) (by simp), q7.cells (b := w1.heap.size) (p := (n1, n2)) (by simp), q7.cells (b := w.heap.size) (p := (x, y)) (by simp), q7.cells (b := (w.heap.size + 1)) (p := (x2, y2)) (by simp)⟩
  replace q7 := Lib.hid q7
  go_wp2_with fail
  (refine hq.out _ _ (fun W : World => (W.cell? ⟨w3.heap.size, 0, none⟩ = some (.int .i64 n1) ∧ W.cell? ⟨w3.heap.size, 1, none⟩ = some (.int .i64 n2)) ∧ (W.cell? ⟨w1.heap.size, 0, none⟩ = some (.int .i64 n1) ∧ W.cell? ⟨w1.heap.size, 1, none⟩ = some (.int .i64 n2)) ∧ (W.cell? ⟨w.heap.size, 0, none⟩ = some (.int .i64 x) ∧ W.cell? ⟨w.heap.size, 1, none⟩ = some (.int .i64 y)) ∧ (W.cell? ⟨(w.heap.size + 1), 0, none⟩ = some (.int .i64 x2) ∧ W.cell? ⟨(w.heap.size + 1), 1, none⟩ = some (.int .i64 y2))) (fun _ h => h) hHeld ?_; clear hq K; (try simp only [Act.put, List.setIfInBounds_toArray, List.set_cons_zero, List.set_cons_succ]))
  repeat (first | (refine lex_take (v := ?_) rfl (by rfl) (by assumption) ?_ ?_; rotate_left 1; (focus (intro w hSw; (try dsimp only at hSw); go_simp; (try with_reducible rfl))); (try simp only [Act.put, List.setIfInBounds_toArray, List.set_cons_zero, List.set_cons_succ])) | (refine lex_pass rfl (by rfl) (by assumption) ?_; (try simp only [Act.put, List.setIfInBounds_toArray, List.set_cons_zero, List.set_cons_succ])))
  (refine lex_call rfl (by rfl) (fun K hq => ?_); go_simp)
  go_at_call 8
  refine (hAw.out _ q7.out.below).mono ?_; rintro e v8 ⟨rfl, hb8⟩
  have q8 := Lay2.next q7.out hb8
  clear hHeld hb8 q7
  have hHeld : (fun W : World => (W.cell? ⟨w3.heap.size, 0, none⟩ = some (.int .i64 n1) ∧ W.cell? ⟨w3.heap.size, 1, none⟩ = some (.int .i64 n2)) ∧ (W.cell? ⟨w1.heap.size, 0, none⟩ = some (.int .i64 n1) ∧ W.cell? ⟨w1.heap.size, 1, none⟩ = some (.int .i64 n2)) ∧ (W.cell? ⟨w.heap.size, 0, none⟩ = some (.int .i64 x) ∧ W.cell? ⟨w.heap.size, 1, none⟩ = some (.int .i64 y)) ∧ (W.cell? ⟨(w.heap.size + 1), 0, none⟩ = some (.int .i64 x2) ∧ W.cell? ⟨(w.heap.size + 1), 1, none⟩ = some (.int .i64 y2))) v8 := ⟨q8.cells (b := w3.heap.size) (p := (n1, n2)) (by simp), q8.cells (b := w1.heap.size) (p := (n1, n2)) (by simp), q8.cells (b := w.heap.size) (p := (x, y)) (by simp), q8.cells (b := (w.heap.size + 1)) (p := (x2, y2)) (by simp)⟩
  replace q8 := Lib.hid q8
  go_wp2_with fail
  (refine hq.out _ _ (fun W : World => (W.cell? ⟨w3.heap.size, 0, none⟩ = some (.int .i64 n1) ∧ W.cell? ⟨w3.heap.size, 1, none⟩ = some (.int .i64 n2)) ∧ (W.cell? ⟨w1.heap.size, 0, none⟩ = some (.int .i64 n1) ∧ W.cell? ⟨w1.heap.size, 1, none⟩ = some (.int .i64 n2)) ∧ (W.cell? ⟨w.heap.size, 0, none⟩ = some (.int .i64 x) ∧ W.cell? ⟨w.heap.size, 1, none⟩ = some (.int .i64 y)) ∧ (W.cell? ⟨(w.heap.size + 1), 0, none⟩ = some (.int .i64 x2) ∧ W.cell? ⟨(w.heap.size + 1), 1, none⟩ = some (.int .i64 y2))) (fun _ h => h) hHeld ?_; clear hq K; (try simp only [Act.put, List.setIfInBounds_toArray, List.set_cons_zero, List.set_cons_succ]))
  repeat (first | (refine lex_take (v := ?_) rfl (by rfl) (by assumption) ?_ ?_; rotate_left 1; (focus (intro w hSw; (try dsimp only at hSw); go_simp; (try with_reducible rfl))); (try simp only [Act.put, List.setIfInBounds_toArray, List.set_cons_zero, List.set_cons_succ])) | (refine lex_pass rfl (by rfl) (by assumption) ?_; (try simp only [Act.put, List.setIfInBounds_toArray, List.set_cons_zero, List.set_cons_succ])))
  refine lex_end ?_
  refine hR.out _ _ ?_
  clear hR R
  go_wp2_with fail
  go_ret
  exact ⟨rfl, q8.out.below⟩
end Go.Proofs.YtpkkjoiglemlgaaGreatDoor
