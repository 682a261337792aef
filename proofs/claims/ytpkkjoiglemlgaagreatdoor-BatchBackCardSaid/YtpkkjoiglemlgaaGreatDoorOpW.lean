/-
  Operations in memory: Right and the document's. No condition.
-/
import Derived.Test.YtpkkjoiglemlgaaGreatDoorStepR
namespace Go.Proofs.YtpkkjoiglemlgaaGreatDoor
set_option linter.unusedVariables false
open Go.RowKit Go.Extern.Stop Go.Stop Go.Extern Go.ChangeShapes

/-- An operation as a value: its parts lie in memory. -/
def OpIs (w : World) (v : Value) (o : OOp) : Prop :=
  ∃ A n c A' n' c', v = .agg #[.slice A n c, .slice A' n' c'] ∧ o.guards.length = n ∧ o.steps.length = n' ∧ Reads w w.heap.size 3 A n (o.guards.flatMap gCells) ∧ Reads w w.heap.size 5 A' n' (o.steps.flatMap sCells)
theorem OpIs.below {w w' : World} {v : Value} {o : OOp} (h : OpIs w v o) (hb : Below w.heap.size w w') : OpIs w' v o := by
  obtain ⟨A, n, c, A', n', c', e, h1, h2, r1, r2⟩ := h
  exact ⟨A, n, c, A', n', c', e, h1, h2, (r1.below hb).more hb.size, (r2.below hb).more hb.size⟩
theorem off_add (ad : Addr) (i j : Nat) (hj : 0 < j) : (⟨(ad.add i).block, (ad.add i).off + j, none⟩ : Addr) = ad.add (i + j) := by
  rw [← add_of_add]
  cases j with
  | zero => omega
  | succ j => rfl
theorem g3_at {w : World} {B n : Nat} {A : Option Addr} {l : List OGuard} (h : Reads w B 3 A n (l.flatMap gCells)) (hn : l.length = n) {k : Nat} (hk : k < n) :
    ∃ ad x, A = some ad ∧ ad.block < B ∧ l[k]? = some x ∧ ∀ W, Below B w W → (W.cell? (ad.add (k * 3)) = some (.int .i64 x.kind) ∧ W.cell? ⟨(ad.add (k * 3)).block, (ad.add (k * 3)).off + 1, none⟩ = some (.string x.key) ∧ W.cell? ⟨(ad.add (k * 3)).block, (ad.add (k * 3)).off + 2, none⟩ = some (.string x.value)) := by
  obtain ⟨ad, x, e, hb, hx, hc⟩ := Reads.fld (mk := gCells) (fun _ => rfl) h hk hn
  refine ⟨ad, x, e, hb, hx, fun W hW => ⟨?_, ?_, ?_⟩⟩
  · have := hc 0 (.int .i64 x.kind) rfl
    rw [Nat.add_zero] at this
    exact keepc hW hb this
  · rw [off_add _ _ _ (by omega)]; exact keepc hW hb (hc 1 _ rfl)
  · rw [off_add _ _ _ (by omega)]; exact keepc hW hb (hc 2 _ rfl)
theorem s5_at {w : World} {B n : Nat} {A : Option Addr} {l : List OStep} (h : Reads w B 5 A n (l.flatMap sCells)) (hn : l.length = n) {k : Nat} (hk : k < n) :
    ∃ ad x, A = some ad ∧ ad.block < B ∧ l[k]? = some x ∧ ∀ W, Below B w W → (W.cell? (ad.add (k * 5)) = some (.int .i64 x.kind) ∧ W.cell? ⟨(ad.add (k * 5)).block, (ad.add (k * 5)).off + 1, none⟩ = some (.string x.key) ∧ W.cell? ⟨(ad.add (k * 5)).block, (ad.add (k * 5)).off + 2, none⟩ = some (.string x.value) ∧
      W.cell? ⟨(ad.add (k * 5)).block, (ad.add (k * 5)).off + 3, none⟩ = some (.string x.old) ∧ W.cell? ⟨(ad.add (k * 5)).block, (ad.add (k * 5)).off + 4, none⟩ = some (.int .i64 x.n)) := by
  obtain ⟨ad, x, e, hb, hx, hc⟩ := Reads.fld (mk := sCells) (fun _ => rfl) h hk hn
  refine ⟨ad, x, e, hb, hx, fun W hW => ⟨?_, ?_, ?_, ?_, ?_⟩⟩
  · have := hc 0 (.int .i64 x.kind) rfl
    rw [Nat.add_zero] at this
    exact keepc hW hb this
  · rw [off_add _ _ _ (by omega)]; exact keepc hW hb (hc 1 _ rfl)
  · rw [off_add _ _ _ (by omega)]; exact keepc hW hb (hc 2 _ rfl)
  · rw [off_add _ _ _ (by omega)]; exact keepc hW hb (hc 3 _ rfl)
  · rw [off_add _ _ _ (by omega)]; exact keepc hW hb (hc 4 _ rfl)
theorem pred1_any (g : OGuard) (w : World) : Calls Tryz.prog 89 #[.agg #[.int .i64 g.kind, .string g.key, .string g.value]] w fun e w' => e = .returned (.bool (!gRight g)) ∧ Below w.heap.size w w' := by
  obtain ⟨k, key, value⟩ := g
  have hR := Lib.hid (fun w => rightGuard_any k key value w)
  generalize gRight ⟨k, key, value⟩ = q at *
  simp only
  go_enter Tryz.func89, Tryz.ntmps89
  go_wp2_with fail
  refine (hR.out _).mono ?_; rintro e w1 ⟨rfl, hb⟩
  go_wp2_with fail
  go_ret
  exact ⟨rfl, Below.trans ((Below.refl _ _).alloc (Nat.le_refl _) _) (hb.mono (by simp))⟩
theorem pred2_any (x : OStep) (w : World) : Calls Tryz.prog 92 #[.agg #[.int .i64 x.kind, .string x.key, .string x.value, .string x.old, .int .i64 x.n]] w fun e w' => e = .returned (.bool (!sRight x)) ∧ Below w.heap.size w w' := by
  obtain ⟨k, key, value, old, n⟩ := x
  have hR := Lib.hid (fun w => rightStep_any k key value old n w)
  generalize sRight ⟨k, key, value, old, n⟩ = q at *
  simp only
  go_enter Tryz.func92, Tryz.ntmps92
  go_wp2_with fail
  refine (hR.out _).mono ?_; rintro e w1 ⟨rfl, hb⟩
  go_wp2_with fail
  go_ret
  exact ⟨rfl, Below.trans ((Below.refl _ _).alloc (Nat.le_refl _) _) (hb.mono (by simp))⟩
theorem any_at {α : Type} {l : List α} {p : α → Bool} {k : Nat} {x : α} (hx : l[k]? = some x) (hp : p x = true) : l.any p = true := List.any_eq_true.2 ⟨x, List.mem_of_getElem? hx, hp⟩
theorem any_no {α : Type} {l : List α} {p : α → Bool} (h : ∀ j x, j < l.length → l[j]? = some x → p x = false) : l.any p = false := by
  rw [List.any_eq_false]
  intro x hx
  obtain ⟨j, hj⟩ := List.mem_iff_getElem?.1 hx
  rw [h j x (List.getElem?_eq_some_iff.1 hj).1 hj]
  decide
set_option maxHeartbeats 1000000 in
theorem indexG_any (A : Option Addr) (n c : Nat) (l : List OGuard) (hn : l.length = n) (hm : n ≤ maxLen) (w : World) (h : Reads w w.heap.size 3 A n (l.flatMap gCells)) :
    Calls Tryz.prog 115 #[.slice A n c, .func (.func 89) #[] #[]] w fun e w' => ∃ i : Int, e = .returned (.int .i64 i) ∧ decide (0 ≤ i) = (l.any fun g => !gRight g) ∧ Below w.heap.size w w' := by
  replace h := Lib.hid h
  unfold maxLen at hm
  go_enter Tryz.func115, Tryz.ntmps115
  go_wp2_with fail
  go_loopw [8] (fun i wr => ∃ k : Nat, i = .int .i64 k ∧ k ≤ n ∧ (∀ j x, j < k → l[j]? = some x → gRight x = true) ∧ Below w.heap.size w wr) (fun i _ => n + 1 - (intOf i).toNat)
  case atStart => exact ⟨0, rfl, by omega, fun j x hj => by omega, Below.refl _ _⟩
  case round =>
    obtain ⟨k, rfl, hk, hj, hb⟩ := hrel
    replace hj := Lib.hid hj
    by_cases hlt : k < n
    · obtain ⟨ad, x, rfl, hadb, hx, hc⟩ := g3_at h.out hn hlt
      obtain ⟨c0, c1, c2⟩ := hc _ hb
      have hP := Lib.hid (fun w => pred1_any x w)
      clear hc
      cases hg : gRight x
      · have hany := Lib.hid (any_at (p := fun g => !gRight g) hx (by rw [hg]; rfl))
        rw [hg] at hP
        replace hx := Lib.hid hx
        replace hg := Lib.hid hg
        go_wp2_with fail
        refine (hP.out _).mono ?_; rintro e w1 ⟨rfl, hb1⟩
        go_wp2_with fail
        go_ret
        exact ⟨_, rfl, by rw [hany.out]; exact decide_eq_true (by omega), Below.next_ hb hb1⟩
      · rw [hg] at hP
        have hj2 : ∀ j y, j < k + 1 → l[j]? = some y → gRight y = true := fun j y hjk hy => by
          rcases Nat.lt_or_ge j k with h1 | h1
          · exact hj.out j y h1 hy
          · obtain rfl : j = k := by omega
            rw [hx] at hy
            injection hy with hy
            subst hy
            exact hg
        replace hj2 := Lib.hid hj2
        replace hx := Lib.hid hx
        replace hg := Lib.hid hg
        go_wp2_with fail
        refine (hP.out _).mono ?_; rintro e w1 ⟨rfl, hb1⟩
        go_wp2_with fail
        go_roundw
        case rel => exact ⟨k + 1, by go_num, by omega, hj2.out, Below.next_ hb hb1⟩
        case measure => simp [intOf]; omega
    · obtain rfl : k = n := by omega
      have hany := Lib.hid (any_no (l := l) (p := fun g => !gRight g) fun j x hjl hx => by rw [hj.out j x (by omega) hx]; rfl)
      go_wp2_with fail
      go_ret
      exact ⟨-1, rfl, by rw [hany.out]; rfl, hb⟩
theorem containsG_any (A : Option Addr) (n c : Nat) (l : List OGuard) (hn : l.length = n) (hm : n ≤ maxLen) (w : World) (h : Reads w w.heap.size 3 A n (l.flatMap gCells)) :
    Calls Tryz.prog 88 #[.slice A n c, .func (.func 89) #[] #[]] w fun e w' => e = .returned (.bool (!l.all gRight)) ∧ Below w.heap.size w w' := by
  have hI := Lib.hid (indexG_any A n c l hn hm w h)
  have ha : (l.any fun g => !gRight g) = !l.all gRight := by rw [List.not_all_eq_any_not]
  rw [ha] at hI
  generalize l.all gRight = q at *
  replace ha := Lib.hid ha
  clear h
  go_enter Tryz.func88, Tryz.ntmps88
  go_wp2_with fail
  refine (hI.out).mono ?_; rintro e w1 ⟨i, rfl, hi, hb⟩
  go_wp2_with fail
  go_ret
  exact ⟨by rw [← hi]; rfl, hb⟩
set_option maxHeartbeats 1000000 in
theorem indexS_any (A : Option Addr) (n c : Nat) (l : List OStep) (hn : l.length = n) (hm : n ≤ maxLen) (w : World) (h : Reads w w.heap.size 5 A n (l.flatMap sCells)) :
    Calls Tryz.prog 116 #[.slice A n c, .func (.func 92) #[] #[]] w fun e w' => ∃ i : Int, e = .returned (.int .i64 i) ∧ decide (0 ≤ i) = (l.any fun g => !sRight g) ∧ Below w.heap.size w w' := by
  replace h := Lib.hid h
  unfold maxLen at hm
  go_enter Tryz.func116, Tryz.ntmps116
  go_wp2_with fail
  go_loopw [8] (fun i wr => ∃ k : Nat, i = .int .i64 k ∧ k ≤ n ∧ (∀ j x, j < k → l[j]? = some x → sRight x = true) ∧ Below w.heap.size w wr) (fun i _ => n + 1 - (intOf i).toNat)
  case atStart => exact ⟨0, rfl, by omega, fun j x hj => by omega, Below.refl _ _⟩
  case round =>
    obtain ⟨k, rfl, hk, hj, hb⟩ := hrel
    replace hj := Lib.hid hj
    by_cases hlt : k < n
    · obtain ⟨ad, x, rfl, hadb, hx, hc⟩ := s5_at h.out hn hlt
      obtain ⟨c0, c1, c2, c3, c4⟩ := hc _ hb
      have hP := Lib.hid (fun w => pred2_any x w)
      clear hc
      cases hg : sRight x
      · have hany := Lib.hid (any_at (p := fun g => !sRight g) hx (by rw [hg]; rfl))
        rw [hg] at hP
        replace hx := Lib.hid hx
        replace hg := Lib.hid hg
        go_wp2_with fail
        refine (hP.out _).mono ?_; rintro e w1 ⟨rfl, hb1⟩
        go_wp2_with fail
        go_ret
        exact ⟨_, rfl, by rw [hany.out]; exact decide_eq_true (by omega), Below.next_ hb hb1⟩
      · rw [hg] at hP
        have hj2 : ∀ j y, j < k + 1 → l[j]? = some y → sRight y = true := fun j y hjk hy => by
          rcases Nat.lt_or_ge j k with h1 | h1
          · exact hj.out j y h1 hy
          · obtain rfl : j = k := by omega
            rw [hx] at hy
            injection hy with hy
            subst hy
            exact hg
        replace hj2 := Lib.hid hj2
        replace hx := Lib.hid hx
        replace hg := Lib.hid hg
        go_wp2_with fail
        refine (hP.out _).mono ?_; rintro e w1 ⟨rfl, hb1⟩
        go_wp2_with fail
        go_roundw
        case rel => exact ⟨k + 1, by go_num, by omega, hj2.out, Below.next_ hb hb1⟩
        case measure => simp [intOf]; omega
    · obtain rfl : k = n := by omega
      have hany := Lib.hid (any_no (l := l) (p := fun g => !sRight g) fun j x hjl hx => by rw [hj.out j x (by omega) hx]; rfl)
      go_wp2_with fail
      go_ret
      exact ⟨-1, rfl, by rw [hany.out]; rfl, hb⟩
theorem containsS_any (A : Option Addr) (n c : Nat) (l : List OStep) (hn : l.length = n) (hm : n ≤ maxLen) (w : World) (h : Reads w w.heap.size 5 A n (l.flatMap sCells)) :
    Calls Tryz.prog 91 #[.slice A n c, .func (.func 92) #[] #[]] w fun e w' => e = .returned (.bool (!l.all sRight)) ∧ Below w.heap.size w w' := by
  have hI := Lib.hid (indexS_any A n c l hn hm w h)
  have ha : (l.any fun g => !sRight g) = !l.all sRight := by rw [List.not_all_eq_any_not]
  rw [ha] at hI
  generalize l.all sRight = q at *
  replace ha := Lib.hid ha
  clear h
  go_enter Tryz.func91, Tryz.ntmps91
  go_wp2_with fail
  refine (hI.out).mono ?_; rintro e w1 ⟨i, rfl, hi, hb⟩
  go_wp2_with fail
  go_ret
  exact ⟨by rw [← hi]; rfl, hb⟩
set_option maxHeartbeats 1000000 in
theorem right_any (v : Value) (o : OOp) (w : World) (h : OpIs w v o) (h1 : o.guards.length ≤ maxLen) (h2 : o.steps.length ≤ maxLen) : Calls Tryz.prog 59 #[v] w fun e w' => e = .returned (.bool (oRight o)) ∧ Below w.heap.size w w' := by
  obtain ⟨A, n, c, A', n', c', rfl, e1, e2, r1, r2⟩ := h
  obtain ⟨gs, ss⟩ := o
  simp only at e1 e2 r1 r2 h1 h2
  have hor : oRight ⟨gs, ss⟩ = (decide (n ≤ 4) && decide (1 ≤ n') && decide (n' ≤ 4) && gs.all gRight && ss.all sRight) := by unfold oRight; rw [e1, e2]
  rw [hor]
  have hA : Below w.heap.size w (w.alloc (.cells #[.slice A n c, .slice A' n' c'] 62)) := (Below.refl _ _).alloc (Nat.le_refl _) _
  have C1 := Lib.hid (fun W (hW : Below w.heap.size w W) => containsG_any A n c gs e1 (by omega) W ((r1.below hW).more hW.size))
  have C2 := Lib.hid (fun W (hW : Below w.heap.size w W) => containsS_any A' n' c' ss e2 (by omega) W ((r2.below hW).more hW.size))
  have hBx := Lib.hid (Blk.new w 62 #[.slice A n c, .slice A' n' c'])
  replace hor := Lib.hid hor
  replace hA := Lib.hid hA
  generalize gs.all gRight = p at *
  generalize ss.all sRight = q at *
  replace r1 := Lib.hid r1
  replace r2 := Lib.hid r2
  replace e1 := Lib.hid e1
  replace e2 := Lib.hid e2
  unfold maxLen at h1 h2
  have hcase : 4 < n ∨ (n ≤ 4 ∧ n' < 1) ∨ (n ≤ 4 ∧ 1 ≤ n' ∧ 4 < n') ∨ (n ≤ 4 ∧ 1 ≤ n' ∧ n' ≤ 4) := by omega
  rcases hcase with q1 | ⟨q1, q2⟩ | ⟨q1, q2, q3⟩ | ⟨q1, q2, q3⟩
  · have d : decide (n ≤ 4) = false := decide_eq_false (by omega)
    have dd : (decide (n ≤ 4) && decide (1 ≤ n') && decide (n' ≤ 4) && p && q) = false := by rw [d]; simp
    rw [dd]
    clear dd d
    go_enter Tryz.func59, Tryz.ntmps59
    go_wp2_with fail
    go_ret
    exact ⟨rfl, hA.out⟩
  · have d : decide (1 ≤ n') = false := decide_eq_false (by omega)
    have dd : (decide (n ≤ 4) && decide (1 ≤ n') && decide (n' ≤ 4) && p && q) = false := by rw [d]; simp
    rw [dd]
    clear dd d
    go_enter Tryz.func59, Tryz.ntmps59
    go_wp2_with fail
    go_ret
    exact ⟨rfl, hA.out⟩
  · have d : decide (n' ≤ 4) = false := decide_eq_false (by omega)
    have dd : (decide (n ≤ 4) && decide (1 ≤ n') && decide (n' ≤ 4) && p && q) = false := by rw [d]; simp
    rw [dd]
    clear dd d
    go_enter Tryz.func59, Tryz.ntmps59
    go_wp2_with fail
    go_ret
    exact ⟨rfl, hA.out⟩
  · have d : (decide (n ≤ 4) && decide (1 ≤ n') && decide (n' ≤ 4) && p && q) = (p && q) := by rw [decide_eq_true q1, decide_eq_true q2, decide_eq_true q3]; rfl
    rw [d]
    replace d := Lib.hid d
    go_enter Tryz.func59, Tryz.ntmps59
    go_wp2_with fail
    refine (C1.out _ hA.out).mono ?_; rintro e w1 ⟨rfl, hb1⟩
    have hB1 := Lib.hid (Below.next_ hA.out hb1)
    have c0 := (hBx.out.below hb1 (by simp)).cell 0
    have c1 := (hBx.out.below hb1 (by simp)).cell 1
    go_wp2_with fail
    refine (C2.out _ hB1.out).mono ?_; rintro e w2 ⟨rfl, hb2⟩
    have hB2 := Lib.hid (Below.next_ hB1.out hb2)
    clear c0 c1
    cases p <;> cases q
    all_goals
      go_wp2_with fail
      go_ret
      exact ⟨rfl, hB2.out⟩
end Go.Proofs.YtpkkjoiglemlgaaGreatDoor
