import Derived.Test.YtpkkjoiglemlgaaGreatDoorBtY
/-
  slices.Equal at guards and steps, step.Same; slices.EqualFunc at entries, batch.Same. No condition. (Printed by tools/btz.py.)
-/
namespace Go.Proofs.YtpkkjoiglemlgaaGreatDoor
set_option linter.unusedVariables false
open Go.ChangeShapes Go.WideShapes Go.ChangeAt Go.RowKit Go.Extern.Stop Go.Stop Go.Extern

noncomputable def lSame {α : Type} (a b : List α) : Bool := @decide (a = b) (Classical.propDecidable _)
theorem lSame_true {α : Type} {a b : List α} (h : a = b) : lSame a b = true := by unfold lSame; exact @decide_eq_true _ (Classical.propDecidable _) h
theorem lSame_false {α : Type} {a b : List α} (h : a ≠ b) : lSame a b = false := by unfold lSame; exact @decide_eq_false _ (Classical.propDecidable _) h
theorem takeL_same {α : Type} {a b : List α} {k : Nat} {x : α} (h : a.take k = b.take k) (ha : a[k]? = some x) (hb : b[k]? = some x) : a.take (k + 1) = b.take (k + 1) := by
  rw [List.take_add_one, List.take_add_one, h, ha, hb]
theorem takeL_diff {α : Type} {a b : List α} {k : Nat} {x y : α} (ha : a[k]? = some x) (hb : b[k]? = some y) (h : x ≠ y) : a ≠ b := fun e => by
  rw [e, hb] at ha
  injection ha with ha
  exact h ha.symm
set_option maxHeartbeats 2000000 in
set_option maxRecDepth 100000 in
theorem eqG_any {w : World} {A A2 : Option Addr} {n m cap cap2 : Nat} {l1 l2 : List OGuard} (hn : n ≤ maxLen) (e1 : l1.length = n) (e2 : l2.length = m) (r1 : Reads w w.heap.size 3 A n (l1.flatMap gCells)) (r2 : Reads w w.heap.size 3 A2 m (l2.flatMap gCells)) :
    Calls Tryz.prog 96 #[.slice A n cap, .slice A2 m cap2] w fun e w' => e = .returned (.bool (lSame l1 l2)) ∧ Below w.heap.size w w' := by
  unfold maxLen at hn
  by_cases hlen : n = m
  · subst hlen
    replace r1 := Lib.hid r1
    replace r2 := Lib.hid r2
    replace e1 := Lib.hid e1
    replace e2 := Lib.hid e2
    go_enter Tryz.func96, Tryz.ntmps96
    go_wp2_with fail
    go_loopw [13] (fun i wr => ∃ k : Nat, i = .int .i64 k ∧ k ≤ n ∧ Hid (l1.take k = l2.take k) ∧ Below w.heap.size w wr) (fun i _ => n + 1 - (intOf i).toNat)
    case atStart => exact ⟨0, rfl, Nat.zero_le _, by simp [Hid], Below.refl _ _⟩
    case round =>
      obtain ⟨k, rfl, hk, hj, hb⟩ := hrel
      by_cases hlt : k < n
      · obtain ⟨ad, x, rfl, hadb, hx, hc⟩ := g3_at r1.out e1.out hlt
        obtain ⟨a0, a1, a2⟩ := hc _ hb
        obtain ⟨bd, y, rfl, hbdb, hy, hd⟩ := g3_at r2.out e2.out hlt
        obtain ⟨b0, b1, b2⟩ := hd _ hb
        have i1 : (0 : Int) ≤ (k : Int) := by omega
        have i2 : (k : Int) < (n : Int) := by omega
        clear hc hd
        by_cases hxy : x = y
        · subst hxy
          have hj2 := Lib.hid (takeL_same hj.out hx hy)
          replace hx := Lib.hid hx
          replace hy := Lib.hid hy
          go_wp2_with fail
          go_quiet (fail)
          go_wp2_with fail
          first
            | exact ⟨⟨k + 1, by go_num, by omega, hj2, by (repeat first | exact Below.refl _ _ | assumption | refine Below.drew ?_ | refine below_drewN ?_ _ | refine Below.more_ ?_ _ | refine Below.setCell ?_ (by first | exact Nat.le_refl _ | (simp; done) | (simp; omega)) _)⟩, by simp [intOf]; omega⟩
            | (go_roundw; (case rel => exact ⟨k + 1, by go_num, by omega, hj2, by (repeat first | exact Below.refl _ _ | assumption | refine Below.drew ?_ | refine below_drewN ?_ _ | refine Below.more_ ?_ _ | refine Below.setCell ?_ (by first | exact Nat.le_refl _ | (simp; done) | (simp; omega)) _)⟩); (case measure => simp [intOf] <;> omega))
        · have hno := lSame_false (takeL_diff hx hy hxy)
          have hne := g_ne hxy
          replace hno := Lib.hid hno
          replace hx := Lib.hid hx
          replace hy := Lib.hid hy
          replace hxy := Lib.hid hxy
          obtain ⟨xkind, xkey, xvalue⟩ := x
          obtain ⟨ykind, ykey, yvalue⟩ := y
          simp only at hne a0 a1 a2 b0 b1 b2
          rcases hne with hz | ⟨rfl, hz⟩ | ⟨rfl, rfl, hz⟩
          · have z1 : (xkind == ykind) = false := beq_eq_false_iff_ne.2 hz
            go_wp2_with fail
            go_quiet (fail)
            first
              | (go_ret; exact ⟨by rw [hno.out]; rfl, by (repeat first | exact Below.refl _ _ | assumption | refine Below.drew ?_ | refine below_drewN ?_ _ | refine Below.more_ ?_ _ | refine Below.setCell ?_ (by first | exact Nat.le_refl _ | (simp; done) | (simp; omega)) _)⟩)
              | (go_wp2_with fail; go_ret; exact ⟨by rw [hno.out]; rfl, by (repeat first | exact Below.refl _ _ | assumption | refine Below.drew ?_ | refine below_drewN ?_ _ | refine Below.more_ ?_ _ | refine Below.setCell ?_ (by first | exact Nat.le_refl _ | (simp; done) | (simp; omega)) _)⟩)
          · have z1 : (xkey.toList == ykey.toList) = false := beq_eq_false_iff_ne.2 hz
            go_wp2_with fail
            go_quiet (fail)
            first
              | (go_ret; exact ⟨by rw [hno.out]; rfl, by (repeat first | exact Below.refl _ _ | assumption | refine Below.drew ?_ | refine below_drewN ?_ _ | refine Below.more_ ?_ _ | refine Below.setCell ?_ (by first | exact Nat.le_refl _ | (simp; done) | (simp; omega)) _)⟩)
              | (go_wp2_with fail; go_ret; exact ⟨by rw [hno.out]; rfl, by (repeat first | exact Below.refl _ _ | assumption | refine Below.drew ?_ | refine below_drewN ?_ _ | refine Below.more_ ?_ _ | refine Below.setCell ?_ (by first | exact Nat.le_refl _ | (simp; done) | (simp; omega)) _)⟩)
          · have z1 : (xvalue.toList == yvalue.toList) = false := beq_eq_false_iff_ne.2 hz
            go_wp2_with fail
            go_quiet (fail)
            first
              | (go_ret; exact ⟨by rw [hno.out]; rfl, by (repeat first | exact Below.refl _ _ | assumption | refine Below.drew ?_ | refine below_drewN ?_ _ | refine Below.more_ ?_ _ | refine Below.setCell ?_ (by first | exact Nat.le_refl _ | (simp; done) | (simp; omega)) _)⟩)
              | (go_wp2_with fail; go_ret; exact ⟨by rw [hno.out]; rfl, by (repeat first | exact Below.refl _ _ | assumption | refine Below.drew ?_ | refine below_drewN ?_ _ | refine Below.more_ ?_ _ | refine Below.setCell ?_ (by first | exact Nat.le_refl _ | (simp; done) | (simp; omega)) _)⟩)
      · obtain rfl : k = n := by omega
        have hfin := Lib.hid (lSame_true (show l1 = l2 by
          have h := hj.out
          rwa [List.take_of_length_le (by rw [e1.out]; exact Nat.le_refl _), List.take_of_length_le (by rw [e2.out]; exact Nat.le_refl _)] at h))
        go_wp2_with fail
        go_ret
        exact ⟨by rw [hfin.out]; rfl, hb⟩
  · have hfin := Lib.hid (lSame_false (a := l1) (b := l2) (fun e => hlen (by rw [← e1, ← e2, e])))
    have hne : ((n : Int) == (m : Int)) = false := beq_eq_false_iff_ne.2 (by omega)
    clear r1 r2
    replace e1 := Lib.hid e1
    replace e2 := Lib.hid e2
    go_enter Tryz.func96, Tryz.ntmps96
    go_wp2_with fail
    go_ret
    exact ⟨by rw [hfin.out]; rfl, Below.refl _ _⟩
set_option maxHeartbeats 2000000 in
set_option maxRecDepth 100000 in
theorem eqS_any {w : World} {A A2 : Option Addr} {n m cap cap2 : Nat} {l1 l2 : List OStep} (hn : n ≤ maxLen) (e1 : l1.length = n) (e2 : l2.length = m) (r1 : Reads w w.heap.size 5 A n (l1.flatMap sCells)) (r2 : Reads w w.heap.size 5 A2 m (l2.flatMap sCells)) :
    Calls Tryz.prog 97 #[.slice A n cap, .slice A2 m cap2] w fun e w' => e = .returned (.bool (lSame l1 l2)) ∧ Below w.heap.size w w' := by
  unfold maxLen at hn
  by_cases hlen : n = m
  · subst hlen
    replace r1 := Lib.hid r1
    replace r2 := Lib.hid r2
    replace e1 := Lib.hid e1
    replace e2 := Lib.hid e2
    go_enter Tryz.func97, Tryz.ntmps97
    go_wp2_with fail
    go_loopw [13] (fun i wr => ∃ k : Nat, i = .int .i64 k ∧ k ≤ n ∧ Hid (l1.take k = l2.take k) ∧ Below w.heap.size w wr) (fun i _ => n + 1 - (intOf i).toNat)
    case atStart => exact ⟨0, rfl, Nat.zero_le _, by simp [Hid], Below.refl _ _⟩
    case round =>
      obtain ⟨k, rfl, hk, hj, hb⟩ := hrel
      by_cases hlt : k < n
      · obtain ⟨ad, x, rfl, hadb, hx, hc⟩ := s5_at r1.out e1.out hlt
        obtain ⟨a0, a1, a2, a3, a4⟩ := hc _ hb
        obtain ⟨bd, y, rfl, hbdb, hy, hd⟩ := s5_at r2.out e2.out hlt
        obtain ⟨b0, b1, b2, b3, b4⟩ := hd _ hb
        have i1 : (0 : Int) ≤ (k : Int) := by omega
        have i2 : (k : Int) < (n : Int) := by omega
        clear hc hd
        by_cases hxy : x = y
        · subst hxy
          have hj2 := Lib.hid (takeL_same hj.out hx hy)
          replace hx := Lib.hid hx
          replace hy := Lib.hid hy
          go_wp2_with fail
          go_quiet (fail)
          go_wp2_with fail
          first
            | exact ⟨⟨k + 1, by go_num, by omega, hj2, by (repeat first | exact Below.refl _ _ | assumption | refine Below.drew ?_ | refine below_drewN ?_ _ | refine Below.more_ ?_ _ | refine Below.setCell ?_ (by first | exact Nat.le_refl _ | (simp; done) | (simp; omega)) _)⟩, by simp [intOf]; omega⟩
            | (go_roundw; (case rel => exact ⟨k + 1, by go_num, by omega, hj2, by (repeat first | exact Below.refl _ _ | assumption | refine Below.drew ?_ | refine below_drewN ?_ _ | refine Below.more_ ?_ _ | refine Below.setCell ?_ (by first | exact Nat.le_refl _ | (simp; done) | (simp; omega)) _)⟩); (case measure => simp [intOf] <;> omega))
        · have hno := lSame_false (takeL_diff hx hy hxy)
          have hne := s_ne hxy
          replace hno := Lib.hid hno
          replace hx := Lib.hid hx
          replace hy := Lib.hid hy
          replace hxy := Lib.hid hxy
          obtain ⟨xkind, xkey, xvalue, xold, xn⟩ := x
          obtain ⟨ykind, ykey, yvalue, yold, yn⟩ := y
          simp only at hne a0 a1 a2 a3 a4 b0 b1 b2 b3 b4
          rcases hne with hz | ⟨rfl, hz⟩ | ⟨rfl, rfl, hz⟩ | ⟨rfl, rfl, rfl, hz⟩ | ⟨rfl, rfl, rfl, rfl, hz⟩
          · have z1 : (xkind == ykind) = false := beq_eq_false_iff_ne.2 hz
            go_wp2_with fail
            go_quiet (fail)
            first
              | (go_ret; exact ⟨by rw [hno.out]; rfl, by (repeat first | exact Below.refl _ _ | assumption | refine Below.drew ?_ | refine below_drewN ?_ _ | refine Below.more_ ?_ _ | refine Below.setCell ?_ (by first | exact Nat.le_refl _ | (simp; done) | (simp; omega)) _)⟩)
              | (go_wp2_with fail; go_ret; exact ⟨by rw [hno.out]; rfl, by (repeat first | exact Below.refl _ _ | assumption | refine Below.drew ?_ | refine below_drewN ?_ _ | refine Below.more_ ?_ _ | refine Below.setCell ?_ (by first | exact Nat.le_refl _ | (simp; done) | (simp; omega)) _)⟩)
          · have z1 : (xkey.toList == ykey.toList) = false := beq_eq_false_iff_ne.2 hz
            go_wp2_with fail
            go_quiet (fail)
            first
              | (go_ret; exact ⟨by rw [hno.out]; rfl, by (repeat first | exact Below.refl _ _ | assumption | refine Below.drew ?_ | refine below_drewN ?_ _ | refine Below.more_ ?_ _ | refine Below.setCell ?_ (by first | exact Nat.le_refl _ | (simp; done) | (simp; omega)) _)⟩)
              | (go_wp2_with fail; go_ret; exact ⟨by rw [hno.out]; rfl, by (repeat first | exact Below.refl _ _ | assumption | refine Below.drew ?_ | refine below_drewN ?_ _ | refine Below.more_ ?_ _ | refine Below.setCell ?_ (by first | exact Nat.le_refl _ | (simp; done) | (simp; omega)) _)⟩)
          · have z1 : (xvalue.toList == yvalue.toList) = false := beq_eq_false_iff_ne.2 hz
            go_wp2_with fail
            go_quiet (fail)
            first
              | (go_ret; exact ⟨by rw [hno.out]; rfl, by (repeat first | exact Below.refl _ _ | assumption | refine Below.drew ?_ | refine below_drewN ?_ _ | refine Below.more_ ?_ _ | refine Below.setCell ?_ (by first | exact Nat.le_refl _ | (simp; done) | (simp; omega)) _)⟩)
              | (go_wp2_with fail; go_ret; exact ⟨by rw [hno.out]; rfl, by (repeat first | exact Below.refl _ _ | assumption | refine Below.drew ?_ | refine below_drewN ?_ _ | refine Below.more_ ?_ _ | refine Below.setCell ?_ (by first | exact Nat.le_refl _ | (simp; done) | (simp; omega)) _)⟩)
          · have z1 : (xold.toList == yold.toList) = false := beq_eq_false_iff_ne.2 hz
            go_wp2_with fail
            go_quiet (fail)
            first
              | (go_ret; exact ⟨by rw [hno.out]; rfl, by (repeat first | exact Below.refl _ _ | assumption | refine Below.drew ?_ | refine below_drewN ?_ _ | refine Below.more_ ?_ _ | refine Below.setCell ?_ (by first | exact Nat.le_refl _ | (simp; done) | (simp; omega)) _)⟩)
              | (go_wp2_with fail; go_ret; exact ⟨by rw [hno.out]; rfl, by (repeat first | exact Below.refl _ _ | assumption | refine Below.drew ?_ | refine below_drewN ?_ _ | refine Below.more_ ?_ _ | refine Below.setCell ?_ (by first | exact Nat.le_refl _ | (simp; done) | (simp; omega)) _)⟩)
          · have z1 : (xn == yn) = false := beq_eq_false_iff_ne.2 hz
            go_wp2_with fail
            go_quiet (fail)
            first
              | (go_ret; exact ⟨by rw [hno.out]; rfl, by (repeat first | exact Below.refl _ _ | assumption | refine Below.drew ?_ | refine below_drewN ?_ _ | refine Below.more_ ?_ _ | refine Below.setCell ?_ (by first | exact Nat.le_refl _ | (simp; done) | (simp; omega)) _)⟩)
              | (go_wp2_with fail; go_ret; exact ⟨by rw [hno.out]; rfl, by (repeat first | exact Below.refl _ _ | assumption | refine Below.drew ?_ | refine below_drewN ?_ _ | refine Below.more_ ?_ _ | refine Below.setCell ?_ (by first | exact Nat.le_refl _ | (simp; done) | (simp; omega)) _)⟩)
      · obtain rfl : k = n := by omega
        have hfin := Lib.hid (lSame_true (show l1 = l2 by
          have h := hj.out
          rwa [List.take_of_length_le (by rw [e1.out]; exact Nat.le_refl _), List.take_of_length_le (by rw [e2.out]; exact Nat.le_refl _)] at h))
        go_wp2_with fail
        go_ret
        exact ⟨by rw [hfin.out]; rfl, hb⟩
  · have hfin := Lib.hid (lSame_false (a := l1) (b := l2) (fun e => hlen (by rw [← e1, ← e2, e])))
    have hne : ((n : Int) == (m : Int)) = false := beq_eq_false_iff_ne.2 (by omega)
    clear r1 r2
    replace e1 := Lib.hid e1
    replace e2 := Lib.hid e2
    go_enter Tryz.func97, Tryz.ntmps97
    go_wp2_with fail
    go_ret
    exact ⟨by rw [hfin.out]; rfl, Below.refl _ _⟩
theorem oSame_parts (a b : OOp) : oSame a b = (lSame a.guards b.guards && lSame a.steps b.steps) := by
  by_cases h1 : a.guards = b.guards
  · by_cases h2 : a.steps = b.steps
    · obtain ⟨g, s⟩ := a
      obtain ⟨g', s'⟩ := b
      simp only at h1 h2
      subst h1 h2
      rw [oSame_self, lSame_true rfl, lSame_true rfl]; rfl
    · rw [lSame_false h2, Bool.and_false]
      exact oSame_no (fun e => h2 (by rw [e]))
  · rw [lSame_false h1, Bool.false_and]
    exact oSame_no (fun e => h1 (by rw [e]))
set_option maxHeartbeats 2000000 in
set_option maxRecDepth 100000 in
theorem stepSame_any (v v' : Value) (a b : OOp) (w : World) (h : OpL w v a) (h' : OpL w v' b) :
    Calls Tryz.prog 63 #[v, v'] w fun e w' => e = .returned (.bool (oSame a b)) ∧ Below w.heap.size w w' := by
  obtain ⟨⟨A, n, c, A', n', c', rfl, e1, e2, r1, r2⟩, q1, q2⟩ := h
  obtain ⟨⟨B, m, d, B', m', d', rfl, f1, f2, s1, s2⟩, _, _⟩ := h'
  rw [e1] at q1
  rw [e2] at q2
  rw [oSame_parts]
  have hb1 : Below w.heap.size w ((w.alloc (.cells #[.slice A n c, .slice A' n' c'] 62)).alloc (.cells #[.slice B m d, .slice B' m' d'] 62)) := ((Below.refl _ _).alloc (Nat.le_refl _) _).alloc (by simp) _
  have B1 := Blk.alloc (Blk.new w 62 #[.slice A n c, .slice A' n' c']) (.cells #[.slice B m d, .slice B' m' d'] 62)
  have B2 := Blk.new (w.alloc (.cells #[.slice A n c, .slice A' n' c'] 62)) 62 #[.slice B m d, .slice B' m' d']
  rw [World.size_alloc] at B2
  have hG := fun W (h : Below w.heap.size w W) => eqG_any (w := W) (cap := c) (cap2 := d) q1 e1 f1 ((r1.below h).more h.size) ((s1.below h).more h.size)
  have hS := fun W (h : Below w.heap.size w W) => eqS_any (w := W) (cap := c') (cap2 := d') q2 e2 f2 ((r2.below h).more h.size) ((s2.below h).more h.size)
  generalize lSame a.guards b.guards = p at *
  generalize lSame a.steps b.steps = q at *
  replace hG := Lib.hid hG
  replace hS := Lib.hid hS
  replace hb1 := Lib.hid hb1
  replace B1 := Lib.hid B1
  replace B2 := Lib.hid B2
  clear r1 r2 s1 s2 e1 e2 f1 f2
  cases p
  · go_enter Tryz.func63, Tryz.ntmps63
    go_wp2_with fail
    refine (hG.out _ hb1.out).mono ?_; rintro e w4 ⟨rfl, hb4⟩
    go_wp2_with fail
    go_ret
    exact ⟨rfl, Below.next_ hb1.out hb4⟩
  · go_enter Tryz.func63, Tryz.ntmps63
    go_wp2_with fail
    refine (hG.out _ hb1.out).mono ?_; rintro e w4 ⟨rfl, hb4⟩
    have C1 := B1.out.below hb4 B1.out.lt
    have C2 := B2.out.below hb4 B2.out.lt
    have x1 := C1.cell 1
    have x2 := C2.cell 1
    have hb5 := Lib.hid (Below.next_ hb1.out hb4)
    clear C1 C2 hb4
    go_wp2_with fail
    refine (hS.out _ hb5.out).mono ?_; rintro e w6 ⟨rfl, hb6⟩
    go_wp2_with fail
    go_ret
    exact ⟨by rw [Bool.true_and]; rfl, Below.next_ hb5.out hb6⟩
/-- Are two entries the same? -/
noncomputable def xSame (a b : Ent) : Bool := @decide (a = b) (Classical.propDecidable _)
theorem xSame_true {a b : Ent} (h : a = b) : xSame a b = true := by unfold xSame; exact @decide_eq_true _ (Classical.propDecidable _) h
theorem xSame_false {a b : Ent} (h : a ≠ b) : xSame a b = false := by unfold xSame; exact @decide_eq_false _ (Classical.propDecidable _) h
set_option maxHeartbeats 2000000 in
set_option maxRecDepth 100000 in
theorem btSame1_any {w : World} (a b : Ent) (A : Option Addr) (n c : Nat) (A' : Option Addr) (n' c' : Nat) (B : Option Addr) (m d : Nat) (B' : Option Addr) (m' d' : Nat) (h : OpL w (.agg #[.slice A n c, .slice A' n' c']) a.op) (h' : OpL w (.agg #[.slice B m d, .slice B' m' d']) b.op) :
    Calls Tryz.prog 62 #[.agg #[.int .i64 a.id.1, .int .i64 a.id.2, .slice A n c, .slice A' n' c'], .agg #[.int .i64 b.id.1, .int .i64 b.id.2, .slice B m d, .slice B' m' d']] w fun e w' => e = .returned (.bool (xSame a b)) ∧ Below w.heap.size w w' := by
  obtain ⟨⟨i1, i2⟩, op⟩ := a
  obtain ⟨⟨j1, j2⟩, op2⟩ := b
  simp only at h h' ⊢
  have hb1 : Below w.heap.size w ((w.alloc (.cells #[.int .i64 i1, .int .i64 i2, .slice A n c, .slice A' n' c'] 64)).alloc (.cells #[.int .i64 j1, .int .i64 j2, .slice B m d, .slice B' m' d'] 64)) := ((Below.refl _ _).alloc (Nat.le_refl _) _).alloc (by simp) _
  have hS := fun W (hW : Below w.heap.size w W) => stepSame_any _ _ op op2 W (h.below hW) (h'.below hW)
  replace hS := Lib.hid hS
  replace hb1 := Lib.hid hb1
  clear h h'
  by_cases hid : (i1, i2) = (j1, j2)
  · injection hid with h1 h2
    subst h1 h2
    have hx : xSame ⟨(i1, i2), op⟩ ⟨(i1, i2), op2⟩ = oSame op op2 := by
      by_cases ho : op = op2
      · rw [xSame_true (by rw [ho]), ho, oSame_self]
      · rw [xSame_false (fun e => ho (by injection e)), oSame_no ho]
    rw [hx]
    generalize oSame op op2 = q at *
    replace hx := Lib.hid hx
    go_enter Tryz.func62, Tryz.ntmps62
    go_wp2_with fail
    refine (hS.out _ hb1.out).mono ?_; rintro e w4 ⟨rfl, hb4⟩
    go_wp2_with fail
    go_ret
    exact ⟨rfl, Below.next_ hb1.out hb4⟩
  · have hx := xSame_false (a := ⟨(i1, i2), op⟩) (b := ⟨(j1, j2), op2⟩) (fun e => hid (by injection e))
    rw [hx]
    replace hx := Lib.hid hx
    rcases id_eq_false hid with h | ⟨h0, h⟩
    · replace hid := Lib.hid hid
      go_enter Tryz.func62, Tryz.ntmps62
      go_wp2_with fail
      go_ret
      exact ⟨rfl, hb1.out⟩
    · replace hid := Lib.hid hid
      subst h0
      go_enter Tryz.func62, Tryz.ntmps62
      go_wp2_with fail
      go_ret
      exact ⟨rfl, hb1.out⟩
set_option maxHeartbeats 4000000 in
set_option maxRecDepth 100000 in
theorem eqFunc_any {w : World} {v1 v2 : Value} {l1 l2 : List Ent} (h1 : ERow w v1 l1) (h2 : ERow w v2 l2) (hn : l1.length ≤ 1000000) :
    Calls Tryz.prog 61 #[v1, v2, .func (.func 62) #[] #[]] w fun e w' => e = .returned (.bool (eSame l1 l2)) ∧ Below w.heap.size w w' := by
  obtain ⟨A, cap, its, rfl, e1, r1, o1⟩ := h1
  obtain ⟨A2, cap2, its2, rfl, e2, r2, o2⟩ := h2
  have g1 : its.length = l1.length := by rw [← e1]; simp
  have g2 : its2.length = l2.length := by rw [← e2]; simp
  by_cases hlen : l1.length = l2.length
  · obtain ⟨n, hl1⟩ : ∃ n, l1.length = n := ⟨_, rfl⟩
    have hl2 : l2.length = n := by omega
    rw [hl1] at r1 g1 hn ⊢
    rw [hl2] at r2 g2 ⊢
    replace r1 := Lib.hid r1
    replace r2 := Lib.hid r2
    replace o1 := Lib.hid o1
    replace o2 := Lib.hid o2
    replace e1 := Lib.hid e1
    replace e2 := Lib.hid e2
    replace g1 := Lib.hid g1
    replace g2 := Lib.hid g2
    replace hl1 := Lib.hid hl1
    replace hl2 := Lib.hid hl2
    replace hlen := Lib.hid hlen
    go_enter Tryz.func61, Tryz.ntmps61
    go_wp2_with fail
    go_loopw [17] (fun i wr => ∃ k : Nat, i = .int .i64 k ∧ k ≤ n ∧ Hid (l1.take k = l2.take k) ∧ Below w.heap.size w wr) (fun i _ => n + 1 - (intOf i).toNat)
    case atStart => exact ⟨0, rfl, Nat.zero_le _, by simp [Hid], Below.refl _ _⟩
    case round =>
      obtain ⟨k, rfl, hk, hpre, hb⟩ := hrel
      by_cases hlt : k < n
      · obtain ⟨ad, it, rfl, hab, hx, hA⟩ := ent_cells r1.out g1.out hlt
        obtain ⟨ad2, it2, rfl, hab2, hx2, hB⟩ := ent_cells r2.out g2.out hlt
        have p1 := o1.out it (List.mem_of_getElem? hx)
        have p2 := o2.out it2 (List.mem_of_getElem? hx2)
        have y1 := its_at e1.out hx
        have y2 := its_at e2.out hx2
        obtain ⟨Ag, ng, cg, At, nt, ct, hf⟩ := p1.1.form
        obtain ⟨Bg, mg, dg, Bt, mt, dt, hf2⟩ := p2.1.form
        obtain ⟨⟨⟨i1, i2⟩, op⟩, gv, tv⟩ := it
        obtain ⟨⟨⟨j1, j2⟩, op2⟩, gv2, tv2⟩ := it2
        simp only at hA hB p1 p2 y1 y2 hf hf2
        obtain ⟨rfl, rfl⟩ := op_parts hf
        obtain ⟨rfl, rfl⟩ := op_parts hf2
        clear hf hf2
        have hbX : Below wr.heap.size wr ((wr.alloc (.cells #[.int .i64 i1, .int .i64 i2, .slice Ag ng cg, .slice At nt ct] 64)).alloc (.cells #[.int .i64 j1, .int .i64 j2, .slice Bg mg dg, .slice Bt mt dt] 64)) := ((Below.refl _ _).alloc (Nat.le_refl _) _).alloc (by simp) _
        have hb2 := Below.next_ hb hbX
        have hb3 : Below w.heap.size w (wr.alloc (.cells #[.int .i64 i1, .int .i64 i2, .slice Ag ng cg, .slice At nt ct] 64)) := Below.next_ hb ((Below.refl _ _).alloc (Nat.le_refl _) _)
        have hS := btSame1_any ⟨(i1, i2), op⟩ ⟨(j1, j2), op2⟩ Ag ng cg At nt ct Bg mg dg Bt mt dt (p1.below hb2) (p2.below hb2)
        simp only at hS
        obtain ⟨c0, c1, c2, c3⟩ := hA _ hb
        obtain ⟨d0, d1, d2, d3⟩ := hB _ hb3
        replace hx := Lib.hid hx
        replace hx2 := Lib.hid hx2
        replace y1 := Lib.hid y1
        replace y2 := Lib.hid y2
        replace hb2 := Lib.hid hb2
        clear p1 p2 hA hB hbX hb3
        by_cases hxy : (⟨(i1, i2), op⟩ : Ent) = ⟨(j1, j2), op2⟩
        · have hpre2 := Lib.hid (take_same hpre.out y1.out (by rw [y2.out, hxy]))
          rw [xSame_true hxy] at hS
          replace hS := Lib.hid hS
          replace hxy := Lib.hid hxy
          go_wp2_with fail
          refine (hS.out).mono ?_; rintro e w4 ⟨rfl, hb4⟩
          have hb5 := Below.next_ hb2.out hb4
          go_wp2_with fail
          go_roundw
          case rel => exact ⟨k + 1, by go_num, by omega, hpre2, hb5⟩
          case measure => simp [intOf] <;> omega
        · have hfin := Lib.hid (eSame_false (take_diff y1.out y2.out hxy))
          rw [xSame_false hxy] at hS
          replace hS := Lib.hid hS
          replace hxy := Lib.hid hxy
          go_wp2_with fail
          refine (hS.out).mono ?_; rintro e w4 ⟨rfl, hb4⟩
          have hb5 := Below.next_ hb2.out hb4
          go_wp2_with fail
          go_ret
          exact ⟨by rw [hfin.out]; rfl, hb5⟩
      · obtain rfl : k = n := by omega
        have hfin := Lib.hid (eSame_true (show l1 = l2 by
          have h := hpre.out
          rwa [List.take_of_length_le (by rw [hl1.out]; exact Nat.le_refl _), List.take_of_length_le (by rw [hl2.out]; exact Nat.le_refl _)] at h))
        go_wp2_with fail
        go_ret
        exact ⟨by rw [hfin.out]; rfl, hb⟩
  · have hfin := Lib.hid (eSame_false (a := l1) (b := l2) (fun e => hlen (by rw [e])))
    have hne : ((l1.length : Int) == (l2.length : Int)) = false := beq_eq_false_iff_ne.2 (by omega)
    clear r1 r2 o1 o2
    go_enter Tryz.func61, Tryz.ntmps61
    go_wp2_with fail
    go_ret
    exact ⟨by rw [hfin.out]; rfl, Below.refl _ _⟩
theorem btSame_any {w : World} {v1 v2 : Value} {l1 l2 : List Ent} (h1 : ERow w v1 l1) (h2 : ERow w v2 l2) (hn : l1.length ≤ 1000000) :
    Calls Tryz.prog 30 #[v1, v2] w fun e w' => e = .returned (.bool (eSame l1 l2)) ∧ Below w.heap.size w w' := by
  have hE := eqFunc_any h1 h2 hn
  replace hE := Lib.hid hE
  obtain ⟨A, cap, its, rfl, _⟩ := h1
  obtain ⟨A2, cap2, its2, rfl, _⟩ := h2
  go_enter Tryz.func30, Tryz.ntmps30
  go_wp2_with fail
  refine (hE.out).mono ?_; rintro e w4 ⟨rfl, hb4⟩
  go_wp2_with fail
  go_ret
  exact ⟨rfl, hb4⟩
end Go.Proofs.YtpkkjoiglemlgaaGreatDoor

/-
  The law's Few (layer 13). No condition.
-/
namespace Go.Proofs.YtpkkjoiglemlgaaGreatDoor
set_option linter.unusedVariables false
open Go.ChangeShapes Go.WideShapes Go.ChangeAt Go.RowKit Go.Extern.Stop Go.Stop Go.Extern

set_option maxRecDepth 100000 in
set_option maxHeartbeats 8000000 in
theorem few13_any {w : World} {v : Value} {l : List Ent} (h : ERow w v l) (hn : l.length ≤ maxLen) :
    Calls Tryz.prog 23 #[v] w fun e w' => ∃ b, e = .returned (.bool b) ∧ (b = true → l.length ≤ 24) ∧ Below w.heap.size w w' := by
  unfold maxLen at hn
  obtain ⟨A, cap, its, rfl, e1, r1, o1⟩ := h
  have g1 : its.length = l.length := by rw [← e1]; simp
  obtain ⟨n, hl1⟩ : ∃ n, l.length = n := ⟨_, rfl⟩
  rw [hl1] at r1 g1 hn ⊢
  replace r1 := Lib.hid r1
  replace o1 := Lib.hid o1
  replace g1 := Lib.hid g1
  clear e1 hl1
  go_enter Tryz.func23, Tryz.ntmps23
  go_wp2_with fail
  go_loopw [3] (fun i wr => ∃ k : Nat, i = .int .i64 k ∧ k ≤ n ∧ k ≤ 30 ∧ Below w.heap.size w wr) (fun i _ => n + 1 - (intOf i).toNat)
  case atStart => exact ⟨0, rfl, Nat.zero_le _, Nat.zero_le _, Below.refl _ _⟩
  case round =>
    obtain ⟨k, rfl, hk, hk30, hb⟩ := hrel
    by_cases hlt : k < n ∧ k < 30
    · obtain ⟨hlt, hlt2⟩ := hlt
      have d0 : decide ((k : Int) < 30) = true := decide_eq_true (by omega)
      obtain ⟨ad, it, rfl, hab, hx, hA⟩ := ent_cells r1.out g1.out hlt
      have p1 := o1.out it (List.mem_of_getElem? hx)
      obtain ⟨⟨⟨i1, i2⟩, ⟨gs, ss⟩⟩, gv, tv⟩ := it
      obtain ⟨⟨Ag, ng, cg, At, nt, ct, hf, f1, f2, q1, q2⟩, m1, m2⟩ := p1
      simp only at hA hf f1 f2 q1 q2 m1 m2
      obtain ⟨rfl, rfl⟩ := op_parts hf
      clear hf
      unfold maxLen at m1 m2
      rw [f1] at m1
      rw [f2] at m2
      obtain ⟨_, _, c2, c3⟩ := hA _ hb
      have hbX : Below wr.heap.size wr (wr.alloc (.cells #[.slice Ag ng cg, .slice At nt ct] 62)) := (Below.refl _ _).alloc (Nat.le_refl _) _
      have BX := Blk.new wr 62 #[.slice Ag ng cg, .slice At nt ct]
      have hb1 := Below.next_ hb hbX
      replace hx := Lib.hid hx
      replace q1 := Lib.hid q1
      replace q2 := Lib.hid q2
      replace f1 := Lib.hid f1
      replace f2 := Lib.hid f2
      replace BX := Lib.hid BX
      replace hb1 := Lib.hid hb1
      clear hA hbX
      by_cases hg : 10 < ng
      · have d1 : decide ((10 : Int) < (ng : Int)) = true := decide_eq_true (by omega)
        go_wp2_with fail
        go_ret
        exact ⟨_, rfl, (fun h => absurd h (by decide)), hb1.out⟩
      have d1 : decide ((10 : Int) < (ng : Int)) = false := decide_eq_false (by omega)
      by_cases ht : 10 < nt
      · have d2 : decide ((10 : Int) < (nt : Int)) = true := decide_eq_true (by omega)
        go_wp2_with fail
        go_ret
        exact ⟨_, rfl, (fun h => absurd h (by decide)), hb1.out⟩
      have d2 : decide ((10 : Int) < (nt : Int)) = false := decide_eq_false (by omega)
      go_wp2_with fail
      generalize hW : wr.alloc (.cells #[.slice Ag ng cg, .slice At nt ct] 62) = W1 at *
      replace hW := Lib.hid hW
      go_loopw [5] (fun i wq => ∃ j : Nat, i = .int .i64 j ∧ j ≤ ng ∧ Below W1.heap.size W1 wq) (fun i _ => ng + 1 - (intOf i).toNat)
      case atStart => exact ⟨0, rfl, Nat.zero_le _, Below.refl _ _⟩
      case round =>
        obtain ⟨j, rfl, hj, hbq⟩ := hrel
        have x0 := (BX.out.below hbq BX.out.lt).cell 0
        have x1 := (BX.out.below hbq BX.out.lt).cell 1
        have hB := Lib.hid (Below.next_ hb1.out hbq)
        by_cases hjl : j < ng
        · obtain ⟨gd, z, rfl, hgb, hz, hc⟩ := g3_at q1.out f1.out hjl
          obtain ⟨z0, z1, z2⟩ := hc _ hB.out
          clear hc hz
          go_wp2_with fail
          go_quiet (fail)
          go_wp2_with fail
          · go_ret
            exact ⟨_, rfl, (fun h => absurd h (by decide)), below_drewN hB.out _⟩
          · first
              | exact ⟨⟨j + 1, by go_num, by omega, below_drewN hbq _⟩, by simp [intOf]; omega⟩
              | (go_roundw; (case rel => exact ⟨j + 1, by go_num, by omega, below_drewN hbq _⟩); (case measure => simp [intOf] <;> omega))
        · obtain rfl : j = ng := by omega
          go_wp2_with fail
          go_loopw [6] (fun i wp => ∃ j2 : Nat, i = .int .i64 j2 ∧ j2 ≤ nt ∧ Below W1.heap.size W1 wp) (fun i _ => nt + 1 - (intOf i).toNat)
          case atStart => exact ⟨0, rfl, Nat.zero_le _, hbq⟩
          case round =>
            obtain ⟨j2, rfl, hj2, hbp⟩ := hrel
            clear x0 x1 hB
            have x0 := (BX.out.below hbp BX.out.lt).cell 0
            have x1 := (BX.out.below hbp BX.out.lt).cell 1
            have hB := Lib.hid (Below.next_ hb1.out hbp)
            by_cases hjl2 : j2 < nt
            · obtain ⟨gd, z, rfl, hgb, hz, hc⟩ := s5_at q2.out f2.out hjl2
              obtain ⟨z0, z1, z2, z3, z4⟩ := hc _ hB.out
              clear hc hz
              go_wp2_with fail
              go_quiet (fail)
              go_wp2_with fail
              · go_ret
                exact ⟨_, rfl, (fun h => absurd h (by decide)), below_drewN hB.out _⟩
              · first
                  | exact ⟨⟨j2 + 1, by go_num, by omega, below_drewN hbp _⟩, by simp [intOf]; omega⟩
                  | (go_roundw; (case rel => exact ⟨j2 + 1, by go_num, by omega, below_drewN hbp _⟩); (case measure => simp [intOf] <;> omega))
            · obtain rfl : j2 = nt := by omega
              go_wp2_with fail
              go_roundw
              case rel => exact ⟨k + 1, by go_num, by omega, by omega, hB.out⟩
              case measure => simp [intOf] <;> omega
    · by_cases hkn : k < n
      · obtain rfl : k = 30 := by omega
        have d1 : decide ((n : Int) ≤ 24) = false := decide_eq_false (by omega)
        go_wp2_with fail
        go_ret
        exact ⟨_, rfl, (fun h => absurd h (by decide)), hb⟩
      · obtain rfl : k = n := by omega
        go_wp2_with fail
        go_ret
        exact ⟨_, rfl, (fun h => by have h2 := of_decide_eq_true h; omega), hb⟩
end Go.Proofs.YtpkkjoiglemlgaaGreatDoor
