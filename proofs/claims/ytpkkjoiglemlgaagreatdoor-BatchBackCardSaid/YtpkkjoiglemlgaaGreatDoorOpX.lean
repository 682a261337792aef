/-
  The document's Right and Same on operations in memory. No condition.
-/
import Derived.Test.YtpkkjoiglemlgaaGreatDoorStepS
import Derived.Test.YtpkkjoiglemlgaaGreatDoorOpW
import Derived.BigQuiet
namespace Go.Proofs.YtpkkjoiglemlgaaGreatDoor
set_option linter.unusedVariables false
open Go.RowKit Go.Extern.Stop Go.Stop Go.Extern Go.ChangeShapes

theorem all_at {α : Type} {l : List α} {p : α → Bool} {k : Nat} {x : α} (hx : l[k]? = some x) (hp : p x = false) : l.all p = false := by
  rw [List.all_eq_false]
  exact ⟨x, List.mem_of_getElem? hx, by rw [hp]; decide⟩
theorem all_of {α : Type} {l : List α} {p : α → Bool} (h : ∀ j x, j < l.length → l[j]? = some x → p x = true) : l.all p = true := by
  rw [List.all_eq_true]
  intro x hx
  obtain ⟨j, hj⟩ := List.mem_iff_getElem?.1 hx
  exact h j x (List.getElem?_eq_some_iff.1 hj).1 hj
theorem upto_step {α : Type} {l : List α} {p : α → Prop} {k : Nat} {x : α} (hj : ∀ j y, j < k → l[j]? = some y → p y) (hx : l[k]? = some x) (hp : p x) : ∀ j y, j < k + 1 → l[j]? = some y → p y := fun j y hjk hy => by
  rcases Nat.lt_or_ge j k with h1 | h1
  · exact hj j y h1 hy
  · obtain rfl : j = k := by omega
    rw [hx] at hy
    injection hy with hy
    subst hy
    exact hp
set_option maxRecDepth 100000 in
set_option maxHeartbeats 2000000 in
theorem refRight_any (v : Value) (o : OOp) (w : World) (h : OpIs w v o) (h1 : o.guards.length ≤ maxLen) (h2 : o.steps.length ≤ maxLen) : Calls Tryz.prog 60 #[v] w fun e w' => e = .returned (.bool (oRight o)) ∧ Below w.heap.size w w' := by
  obtain ⟨A, n, c, A', n', c', rfl, e1, e2, r1, r2⟩ := h
  obtain ⟨gs, ss⟩ := o
  simp only at e1 e2 r1 r2 h1 h2
  have hor : oRight ⟨gs, ss⟩ = (decide (n ≤ 4) && decide (1 ≤ n') && decide (n' ≤ 4) && gs.all gRight && ss.all sRight) := by unfold oRight; rw [e1, e2]
  rw [hor]
  have hA : Below w.heap.size w (w.alloc (.cells #[.slice A n c, .slice A' n' c'] 62)) := (Below.refl _ _).alloc (Nat.le_refl _) _
  have hBx := Lib.hid (Blk.new w 62 #[.slice A n c, .slice A' n' c'])
  replace hor := Lib.hid hor
  replace hA := Lib.hid hA
  replace r1 := Lib.hid r1
  replace r2 := Lib.hid r2
  replace e1 := Lib.hid e1
  replace e2 := Lib.hid e2
  unfold maxLen at h1 h2
  have m1 : n ≤ 9223372036854775807 := by have := e1.out; omega
  have m2 : n' ≤ 9223372036854775807 := by have := e2.out; omega
  clear h1 h2
  go_enter Tryz.func60, Tryz.ntmps60
  go_wp2_with fail
  go_loopw [3] (fun i wr => ∃ k : Nat, i = .int .i64 k ∧ k ≤ n ∧ (∀ j x, j < k → gs[j]? = some x → gRight x = true) ∧ Below (w.heap.size + 1) (w.alloc (.cells #[.slice A n c, .slice A' n' c'] 62)) wr) (fun i _ => n + 1 - (intOf i).toNat)
  case atStart => exact ⟨0, rfl, by omega, fun j x hj => by omega, Below.refl _ _⟩
  case round =>
    obtain ⟨k, rfl, hk, hj, hb⟩ := hrel
    replace hj := Lib.hid hj
    have hB := Lib.hid (hA.out.trans (hb.mono (by omega)))
    have c0 := (hBx.out.below hb (by omega)).cell 0
    have c1 := (hBx.out.below hb (by omega)).cell 1
    by_cases hlt : k < n
    · obtain ⟨ad, x, rfl, hadb, hx, hc⟩ := g3_at r1.out e1.out hlt
      obtain ⟨d0, d1, d2⟩ := hc _ hB.out
      have hP := Lib.hid (fun w => refRightGuard_any x.kind x.key x.value w)
      have hxe : (⟨x.kind, x.key, x.value⟩ : OGuard) = x := rfl
      rw [hxe] at hP
      clear hc hxe
      cases hg : gRight x
      · have hall := Lib.hid (all_at hx hg)
        rw [hg] at hP
        replace hx := Lib.hid hx
        replace hg := Lib.hid hg
        go_wp2_with fail
        refine (hP.out _).mono ?_; rintro e w1 ⟨rfl, hb1⟩
        go_wp2_with fail
        go_ret
        exact ⟨by rw [hall.out]; simp, Below.next_ hB.out hb1⟩
      · rw [hg] at hP
        have hj2 := Lib.hid (upto_step hj.out hx hg)
        replace hx := Lib.hid hx
        replace hg := Lib.hid hg
        go_wp2_with fail
        refine (hP.out _).mono ?_; rintro e w1 ⟨rfl, hb1⟩
        go_wp2_with fail
        go_roundw
        case rel => exact ⟨k + 1, by go_num, by omega, hj2.out, nx hb (by simp) hb1⟩
        case measure => simp [intOf]; omega
    · obtain rfl : k = n := by omega
      have hall := Lib.hid (all_of (l := gs) (p := gRight) fun j x hjl hx => hj.out j x (by have := e1.out; omega) hx)
      go_wp2_with fail
      go_loopw [4] (fun i wq => ∃ k' : Nat, i = .int .i64 k' ∧ k' ≤ n' ∧ (∀ j x, j < k' → ss[j]? = some x → sRight x = true) ∧ Below (w.heap.size + 1) (w.alloc (.cells #[.slice A k c, .slice A' n' c'] 62)) wq) (fun i _ => n' + 1 - (intOf i).toNat)
      case atStart => exact ⟨0, rfl, by omega, fun j x hj => by omega, hb⟩
      case round =>
        obtain ⟨k', rfl, hk', hj', hb'⟩ := hrel
        replace hj' := Lib.hid hj'
        have hB' := Lib.hid (hA.out.trans (hb'.mono (by omega)))
        clear c0 c1
        have c0 := (hBx.out.below hb' (by omega)).cell 0
        have c1 := (hBx.out.below hb' (by omega)).cell 1
        by_cases hlt' : k' < n'
        · obtain ⟨ad, x, rfl, hadb, hx, hc⟩ := s5_at r2.out e2.out hlt'
          obtain ⟨d0, d1, d2, d3, d4⟩ := hc _ hB'.out
          have hP := Lib.hid (fun w => refRightStep_any x.kind x.key x.value x.old x.n w)
          have hxe : (⟨x.kind, x.key, x.value, x.old, x.n⟩ : OStep) = x := rfl
          rw [hxe] at hP
          clear hc hxe
          cases hg : sRight x
          · have hall2 := Lib.hid (all_at hx hg)
            rw [hg] at hP
            replace hx := Lib.hid hx
            replace hg := Lib.hid hg
            go_wp2_with fail
            refine (hP.out _).mono ?_; rintro e w1 ⟨rfl, hb1⟩
            go_wp2_with fail
            go_ret
            exact ⟨by rw [hall2.out]; simp, Below.next_ hB'.out hb1⟩
          · rw [hg] at hP
            have hj2 := Lib.hid (upto_step hj'.out hx hg)
            replace hx := Lib.hid hx
            replace hg := Lib.hid hg
            go_wp2_with fail
            refine (hP.out _).mono ?_; rintro e w1 ⟨rfl, hb1⟩
            go_wp2_with fail
            go_roundw
            case rel => exact ⟨k' + 1, by go_num, by omega, hj2.out, nx hb' (by simp) hb1⟩
            case measure => simp [intOf]; omega
        · obtain rfl : k' = n' := by omega
          have hall2 := Lib.hid (all_of (l := ss) (p := sRight) fun j x hjl hx => hj'.out j x (by have := e2.out; omega) hx)
          have hcase : 4 < k ∨ (k ≤ 4 ∧ k' < 1) ∨ (k ≤ 4 ∧ 1 ≤ k' ∧ 4 < k') ∨ (k ≤ 4 ∧ 1 ≤ k' ∧ k' ≤ 4) := by omega
          rcases hcase with q1 | ⟨q1, q2⟩ | ⟨q1, q2, q3⟩ | ⟨q1, q2, q3⟩
          all_goals
            go_wp2_with fail
            go_ret
            refine ⟨?_, hB'.out⟩
            rw [hall.out, hall2.out]
            simp
            first | done | (intros; omega) | (rw [Bool.eq_iff_iff]; simp; omega)
/-! ### Same -/
open Classical in
/-- Are two operations the same? -/
noncomputable def oSame (a b : OOp) : Bool := decide (a = b)
theorem oSame_self (a : OOp) : oSame a a = true := by unfold oSame; simp
theorem oSame_no {a b : OOp} (h : a ≠ b) : oSame a b = false := by unfold oSame; simpa using h
theorem tlist_inj {a b : ByteArray} (h : a.toList = b.toList) : a = b := by
  rw [ByteArray.toList_eq, ByteArray.toList_eq] at h
  exact ba_ext h
theorem g_ne {a b : OGuard} (h : a ≠ b) : (a.kind ≠ b.kind) ∨ (a.kind = b.kind ∧ a.key.toList ≠ b.key.toList) ∨ (a.kind = b.kind ∧ a.key = b.key ∧ a.value.toList ≠ b.value.toList) := by
  obtain ⟨k, x, y⟩ := a
  obtain ⟨k', x', y'⟩ := b
  by_cases h1 : k = k'
  · by_cases h2 : x.toList = x'.toList
    · have h2' := tlist_inj h2
      by_cases h3 : y.toList = y'.toList
      · have h3' := tlist_inj h3
        subst h1 h2' h3'
        exact absurd rfl h
      · exact .inr (.inr ⟨h1, h2', h3⟩)
    · exact .inr (.inl ⟨h1, h2⟩)
  · exact .inl h1
theorem s_ne {a b : OStep} (h : a ≠ b) : (a.kind ≠ b.kind) ∨ (a.kind = b.kind ∧ a.key.toList ≠ b.key.toList) ∨ (a.kind = b.kind ∧ a.key = b.key ∧ a.value.toList ≠ b.value.toList) ∨ (a.kind = b.kind ∧ a.key = b.key ∧ a.value = b.value ∧ a.old.toList ≠ b.old.toList) ∨ (a.kind = b.kind ∧ a.key = b.key ∧ a.value = b.value ∧ a.old = b.old ∧ a.n ≠ b.n) := by
  obtain ⟨k, x, y, z, n⟩ := a
  obtain ⟨k', x', y', z', n'⟩ := b
  by_cases h1 : k = k'
  · by_cases h2 : x.toList = x'.toList
    · have h2' := tlist_inj h2
      by_cases h3 : y.toList = y'.toList
      · have h3' := tlist_inj h3
        by_cases h4 : z.toList = z'.toList
        · have h4' := tlist_inj h4
          by_cases h5 : n = n'
          · subst h1 h2' h3' h4' h5
            exact absurd rfl h
          · exact .inr (.inr (.inr (.inr ⟨h1, h2', h3', h4', h5⟩)))
        · exact .inr (.inr (.inr (.inl ⟨h1, h2', h3', h4⟩)))
      · exact .inr (.inr (.inl ⟨h1, h2', h3⟩))
    · exact .inr (.inl ⟨h1, h2⟩)
  · exact .inl h1
set_option maxRecDepth 100000 in
set_option maxHeartbeats 8000000 in
theorem sameO_any (v v' : Value) (a b : OOp) (w : World) (h : OpIs w v a) (h' : OpIs w v' b) (l1 : a.guards.length ≤ maxLen) (l2 : a.steps.length ≤ maxLen) (l3 : b.guards.length ≤ maxLen) (l4 : b.steps.length ≤ maxLen) :
    Calls Tryz.prog 51 #[v, v'] w fun e w' => e = .returned (.bool (oSame a b)) ∧ Below w.heap.size w w' := by
  obtain ⟨A, n, c, A', n', c', rfl, e1, e2, r1, r2⟩ := h
  obtain ⟨B, m, d, B', m', d', rfl, f1, f2, s1, s2⟩ := h'
  obtain ⟨gs, ss⟩ := a
  obtain ⟨hs, ts⟩ := b
  simp only at e1 e2 r1 r2 f1 f2 s1 s2 l1 l2 l3 l4
  have hB1 := Lib.hid (Blk.alloc (Blk.new w 62 #[.slice A n c, .slice A' n' c']) (.cells #[.slice B m d, .slice B' m' d'] 62))
  have hB2 := Lib.hid (Blk.new (w.alloc (.cells #[.slice A n c, .slice A' n' c'] 62)) 62 #[.slice B m d, .slice B' m' d'])
  have hA : Below w.heap.size w ((w.alloc (.cells #[.slice A n c, .slice A' n' c'] 62)).alloc (.cells #[.slice B m d, .slice B' m' d'] 62)) := ((Below.refl _ _).alloc (Nat.le_refl _) _).alloc (by simp) _
  replace hA := Lib.hid hA
  unfold maxLen at l1 l2 l3 l4
  have q1 : n ≤ 9223372036854775807 := by omega
  have q2 : n' ≤ 9223372036854775807 := by omega
  have q3 : m ≤ 9223372036854775807 := by omega
  have q4 : m' ≤ 9223372036854775807 := by omega
  clear l1 l2 l3 l4
  replace r1 := Lib.hid r1
  replace r2 := Lib.hid r2
  replace s1 := Lib.hid s1
  replace s2 := Lib.hid s2
  by_cases hn : n = m
  · by_cases hn' : n' = m'
    · subst hn hn'
      replace e1 := Lib.hid e1
      replace e2 := Lib.hid e2
      replace f1 := Lib.hid f1
      replace f2 := Lib.hid f2
      go_enter Tryz.func51, Tryz.ntmps51
      go_wp2_with fail
      go_loopw [5] (fun i wr => ∃ k : Nat, i = .int .i64 k ∧ k ≤ n ∧ (∀ j x, j < k → gs[j]? = some x → hs[j]? = some x) ∧ Below (w.heap.size + 2) ((w.alloc (.cells #[.slice A n c, .slice A' n' c'] 62)).alloc (.cells #[.slice B n d, .slice B' n' d'] 62)) wr) (fun i _ => n + 1 - (intOf i).toNat)
      case atStart => exact ⟨0, rfl, by omega, fun j x hj => by omega, Below.refl _ _⟩
      case round =>
        obtain ⟨k, rfl, hk, hj, hb⟩ := hrel
        replace hj := Lib.hid hj
        have hB := Lib.hid (hA.out.trans (hb.mono (by omega)))
        have c0 := (hB1.out.below hb (by omega)).cell 0
        have c1 := (hB1.out.below hb (by omega)).cell 1
        have c2 := (hB2.out.below hb (by simp)).cell 0
        have c3 := (hB2.out.below hb (by simp)).cell 1
        simp only [World.size_alloc] at c2 c3
        by_cases hlt : k < n
        · obtain ⟨ad, x, rfl, hadb, hx, hc⟩ := g3_at r1.out e1.out hlt
          obtain ⟨a0, a1, a2⟩ := hc _ hB.out
          obtain ⟨bd, y, rfl, hbdb, hy, hd⟩ := g3_at s1.out f1.out hlt
          obtain ⟨b0, b1, b2⟩ := hd _ hB.out
          have i1 : (0 : Int) ≤ (k : Int) := by omega
          have i2 : (k : Int) < (n : Int) := by omega
          clear hc hd
          by_cases hxy : x = y
          · have hj2 : ∀ j z, j < k + 1 → gs[j]? = some z → hs[j]? = some z := fun j z hjk hz => by
              rcases Nat.lt_or_ge j k with h1 | h1
              · exact hj.out j z h1 hz
              · obtain rfl : j = k := by omega
                rw [hx] at hz
                rw [← hz, hy, hxy]
            subst hxy
            replace hj2 := Lib.hid hj2
            replace hx := Lib.hid hx
            replace hy := Lib.hid hy
            go_wp2_with fail
            go_quiet (fail)
            go_wp2_with fail
            exact ⟨⟨k + 1, by go_num, by omega, hj2.out, by (repeat first | exact Below.refl _ _ | assumption | refine Below.drew ?_ | refine below_drewN ?_ _ | refine Below.more_ ?_ _ | refine Below.setCell ?_ (by first | exact Nat.le_refl _ | (simp; done) | (simp; omega)) _)⟩, by simp [intOf]; omega⟩
          · have hno : oSame ⟨gs, ss⟩ ⟨hs, ts⟩ = false := oSame_no fun e => hxy (by
              obtain ⟨h1, h2⟩ := OOp.mk.inj e
              rw [h1] at hx
              rw [hx] at hy
              exact Option.some.inj hy)
            have hne := g_ne hxy
            replace hno := Lib.hid hno
            replace hx := Lib.hid hx
            replace hy := Lib.hid hy
            replace hxy := Lib.hid hxy
            obtain ⟨xkind, xkey, xvalue⟩ := x
            obtain ⟨ykind, ykey, yvalue⟩ := y
            simp only at hne a0 a1 a2 b0 b1 b2
            rcases hne with hz | ⟨rfl, hz⟩ | ⟨rfl, rfl, hz⟩
            · have z1 : (xkind == ykind) = false := beq_eq_false_iff_ne.2 hz
              go_wp2_with fail
              go_quiet (fail)
              first
                | (go_ret; exact ⟨by rw [hno.out]; rfl, by have := hB.out; (repeat first | exact Below.refl _ _ | assumption | refine Below.drew ?_ | refine below_drewN ?_ _ | refine Below.more_ ?_ _ | refine Below.setCell ?_ (by first | exact Nat.le_refl _ | (simp; done) | (simp; omega)) _)⟩)
                | (go_wp2_with fail; go_ret; exact ⟨by rw [hno.out]; rfl, by have := hB.out; (repeat first | exact Below.refl _ _ | assumption | refine Below.drew ?_ | refine below_drewN ?_ _ | refine Below.more_ ?_ _ | refine Below.setCell ?_ (by first | exact Nat.le_refl _ | (simp; done) | (simp; omega)) _)⟩)
            · have z1 : (xkey.toList == ykey.toList) = false := beq_eq_false_iff_ne.2 hz
              go_wp2_with fail
              go_quiet (fail)
              first
                | (go_ret; exact ⟨by rw [hno.out]; rfl, by have := hB.out; (repeat first | exact Below.refl _ _ | assumption | refine Below.drew ?_ | refine below_drewN ?_ _ | refine Below.more_ ?_ _ | refine Below.setCell ?_ (by first | exact Nat.le_refl _ | (simp; done) | (simp; omega)) _)⟩)
                | (go_wp2_with fail; go_ret; exact ⟨by rw [hno.out]; rfl, by have := hB.out; (repeat first | exact Below.refl _ _ | assumption | refine Below.drew ?_ | refine below_drewN ?_ _ | refine Below.more_ ?_ _ | refine Below.setCell ?_ (by first | exact Nat.le_refl _ | (simp; done) | (simp; omega)) _)⟩)
            · have z1 : (xvalue.toList == yvalue.toList) = false := beq_eq_false_iff_ne.2 hz
              go_wp2_with fail
              go_quiet (fail)
              first
                | (go_ret; exact ⟨by rw [hno.out]; rfl, by have := hB.out; (repeat first | exact Below.refl _ _ | assumption | refine Below.drew ?_ | refine below_drewN ?_ _ | refine Below.more_ ?_ _ | refine Below.setCell ?_ (by first | exact Nat.le_refl _ | (simp; done) | (simp; omega)) _)⟩)
                | (go_wp2_with fail; go_ret; exact ⟨by rw [hno.out]; rfl, by have := hB.out; (repeat first | exact Below.refl _ _ | assumption | refine Below.drew ?_ | refine below_drewN ?_ _ | refine Below.more_ ?_ _ | refine Below.setCell ?_ (by first | exact Nat.le_refl _ | (simp; done) | (simp; omega)) _)⟩)
        · obtain rfl : k = n := by omega
          go_wp2_with fail
          go_loopw [6] (fun i wq => ∃ k' : Nat, i = .int .i64 k' ∧ k' ≤ n' ∧ (∀ j x, j < k' → ss[j]? = some x → ts[j]? = some x) ∧ Below (w.heap.size + 2) ((w.alloc (.cells #[.slice A k c, .slice A' n' c'] 62)).alloc (.cells #[.slice B k d, .slice B' n' d'] 62)) wq) (fun i _ => n' + 1 - (intOf i).toNat)
          case atStart => exact ⟨0, rfl, by omega, fun j x hj => by omega, hb⟩
          case round =>
            have hjg := hj
            clear hj hB c0 c1 c2 c3 hb
            obtain ⟨k', rfl, hk', hj, hb⟩ := hrel
            replace hj := Lib.hid hj
            have hB := Lib.hid (hA.out.trans (hb.mono (by omega)))
            have c0 := (hB1.out.below hb (by omega)).cell 0
            have c1 := (hB1.out.below hb (by omega)).cell 1
            have c2 := (hB2.out.below hb (by simp)).cell 0
            have c3 := (hB2.out.below hb (by simp)).cell 1
            simp only [World.size_alloc] at c2 c3
            by_cases hlt' : k' < n'
            · obtain ⟨ad, x, rfl, hadb, hx, hc⟩ := s5_at r2.out e2.out hlt'
              obtain ⟨a0, a1, a2, a3, a4⟩ := hc _ hB.out
              obtain ⟨bd, y, rfl, hbdb, hy, hd⟩ := s5_at s2.out f2.out hlt'
              obtain ⟨b0, b1, b2, b3, b4⟩ := hd _ hB.out
              have i1 : (0 : Int) ≤ (k' : Int) := by omega
              have i2 : (k' : Int) < (n' : Int) := by omega
              clear hc hd
              by_cases hxy : x = y
              · have hj2 : ∀ j z, j < k' + 1 → ss[j]? = some z → ts[j]? = some z := fun j z hjk hz => by
                  rcases Nat.lt_or_ge j k' with h1 | h1
                  · exact hj.out j z h1 hz
                  · obtain rfl : j = k' := by omega
                    rw [hx] at hz
                    rw [← hz, hy, hxy]
                subst hxy
                replace hj2 := Lib.hid hj2
                replace hx := Lib.hid hx
                replace hy := Lib.hid hy
                go_wp2_with fail
                go_quiet (fail)
                go_wp2_with fail
                exact ⟨⟨k' + 1, by go_num, by omega, hj2.out, by (repeat first | exact Below.refl _ _ | assumption | refine Below.drew ?_ | refine below_drewN ?_ _ | refine Below.more_ ?_ _ | refine Below.setCell ?_ (by first | exact Nat.le_refl _ | (simp; done) | (simp; omega)) _)⟩, by simp [intOf]; omega⟩
              · have hno : oSame ⟨gs, ss⟩ ⟨hs, ts⟩ = false := oSame_no fun e => hxy (by
                  obtain ⟨h1, h2⟩ := OOp.mk.inj e
                  rw [h2] at hx
                  rw [hx] at hy
                  exact Option.some.inj hy)
                have hne := s_ne hxy
                replace hno := Lib.hid hno
                replace hx := Lib.hid hx
                replace hy := Lib.hid hy
                replace hxy := Lib.hid hxy
                obtain ⟨xkind, xkey, xvalue, xold, xn⟩ := x
                obtain ⟨ykind, ykey, yvalue, yold, yn⟩ := y
                simp only at hne a0 a1 a2 a3 a4 b0 b1 b2 b3 b4
                rcases hne with hz | ⟨rfl, hz⟩ | ⟨rfl, rfl, hz⟩ | ⟨rfl, rfl, rfl, hz⟩ | ⟨rfl, rfl, rfl, rfl, hz⟩
                · have z1 : (xkind == ykind) = false := beq_eq_false_iff_ne.2 hz
                  go_wp2_with fail
                  go_quiet (fail)
                  first
                    | (go_ret; exact ⟨by rw [hno.out]; rfl, by have := hB.out; (repeat first | exact Below.refl _ _ | assumption | refine Below.drew ?_ | refine below_drewN ?_ _ | refine Below.more_ ?_ _ | refine Below.setCell ?_ (by first | exact Nat.le_refl _ | (simp; done) | (simp; omega)) _)⟩)
                    | (go_wp2_with fail; go_ret; exact ⟨by rw [hno.out]; rfl, by have := hB.out; (repeat first | exact Below.refl _ _ | assumption | refine Below.drew ?_ | refine below_drewN ?_ _ | refine Below.more_ ?_ _ | refine Below.setCell ?_ (by first | exact Nat.le_refl _ | (simp; done) | (simp; omega)) _)⟩)
                · have z1 : (xkey.toList == ykey.toList) = false := beq_eq_false_iff_ne.2 hz
                  go_wp2_with fail
                  go_quiet (fail)
                  first
                    | (go_ret; exact ⟨by rw [hno.out]; rfl, by have := hB.out; (repeat first | exact Below.refl _ _ | assumption | refine Below.drew ?_ | refine below_drewN ?_ _ | refine Below.more_ ?_ _ | refine Below.setCell ?_ (by first | exact Nat.le_refl _ | (simp; done) | (simp; omega)) _)⟩)
                    | (go_wp2_with fail; go_ret; exact ⟨by rw [hno.out]; rfl, by have := hB.out; (repeat first | exact Below.refl _ _ | assumption | refine Below.drew ?_ | refine below_drewN ?_ _ | refine Below.more_ ?_ _ | refine Below.setCell ?_ (by first | exact Nat.le_refl _ | (simp; done) | (simp; omega)) _)⟩)
                · have z1 : (xvalue.toList == yvalue.toList) = false := beq_eq_false_iff_ne.2 hz
                  go_wp2_with fail
                  go_quiet (fail)
                  first
                    | (go_ret; exact ⟨by rw [hno.out]; rfl, by have := hB.out; (repeat first | exact Below.refl _ _ | assumption | refine Below.drew ?_ | refine below_drewN ?_ _ | refine Below.more_ ?_ _ | refine Below.setCell ?_ (by first | exact Nat.le_refl _ | (simp; done) | (simp; omega)) _)⟩)
                    | (go_wp2_with fail; go_ret; exact ⟨by rw [hno.out]; rfl, by have := hB.out; (repeat first | exact Below.refl _ _ | assumption | refine Below.drew ?_ | refine below_drewN ?_ _ | refine Below.more_ ?_ _ | refine Below.setCell ?_ (by first | exact Nat.le_refl _ | (simp; done) | (simp; omega)) _)⟩)
                · have z1 : (xold.toList == yold.toList) = false := beq_eq_false_iff_ne.2 hz
                  go_wp2_with fail
                  go_quiet (fail)
                  first
                    | (go_ret; exact ⟨by rw [hno.out]; rfl, by have := hB.out; (repeat first | exact Below.refl _ _ | assumption | refine Below.drew ?_ | refine below_drewN ?_ _ | refine Below.more_ ?_ _ | refine Below.setCell ?_ (by first | exact Nat.le_refl _ | (simp; done) | (simp; omega)) _)⟩)
                    | (go_wp2_with fail; go_ret; exact ⟨by rw [hno.out]; rfl, by have := hB.out; (repeat first | exact Below.refl _ _ | assumption | refine Below.drew ?_ | refine below_drewN ?_ _ | refine Below.more_ ?_ _ | refine Below.setCell ?_ (by first | exact Nat.le_refl _ | (simp; done) | (simp; omega)) _)⟩)
                · have z1 : (xn == yn) = false := beq_eq_false_iff_ne.2 hz
                  go_wp2_with fail
                  go_quiet (fail)
                  first
                    | (go_ret; exact ⟨by rw [hno.out]; rfl, by have := hB.out; (repeat first | exact Below.refl _ _ | assumption | refine Below.drew ?_ | refine below_drewN ?_ _ | refine Below.more_ ?_ _ | refine Below.setCell ?_ (by first | exact Nat.le_refl _ | (simp; done) | (simp; omega)) _)⟩)
                    | (go_wp2_with fail; go_ret; exact ⟨by rw [hno.out]; rfl, by have := hB.out; (repeat first | exact Below.refl _ _ | assumption | refine Below.drew ?_ | refine below_drewN ?_ _ | refine Below.more_ ?_ _ | refine Below.setCell ?_ (by first | exact Nat.le_refl _ | (simp; done) | (simp; omega)) _)⟩)
            · obtain rfl : k' = n' := by omega
              have hyes : oSame ⟨gs, ss⟩ ⟨hs, ts⟩ = true := by
                have h1 : gs = hs := List.ext_getElem? fun j => by
                  by_cases hjk : j < k
                  · have hx : gs[j]? = some (gs[j]'(by rw [e1.out]; exact hjk)) := List.getElem?_eq_getElem _
                    rw [hx, hjg.out j _ hjk hx]
                  · rw [List.getElem?_eq_none (by rw [e1.out]; omega), List.getElem?_eq_none (by rw [f1.out]; omega)]
                have h2 : ss = ts := List.ext_getElem? fun j => by
                  by_cases hjk : j < k'
                  · have hx : ss[j]? = some (ss[j]'(by rw [e2.out]; exact hjk)) := List.getElem?_eq_getElem _
                    rw [hx, hj.out j _ hjk hx]
                  · rw [List.getElem?_eq_none (by rw [e2.out]; omega), List.getElem?_eq_none (by rw [f2.out]; omega)]
                rw [h1, h2]
                exact oSame_self _
              replace hyes := Lib.hid hyes
              go_wp2_with fail
              go_ret
              exact ⟨by rw [hyes.out]; rfl, hB.out⟩
    · subst hn
      have hno : oSame ⟨gs, ss⟩ ⟨hs, ts⟩ = false := oSame_no fun e => by
        obtain ⟨_, h2⟩ := OOp.mk.inj e
        rw [h2] at e2
        omega
      have z2 : ((n' : Int) == m') = false := beq_eq_false_iff_ne.2 (by omega)
      have z3 : ((n' : Int) != m') = true := by rw [bne, z2]; rfl
      rw [hno]
      go_enter Tryz.func51, Tryz.ntmps51
      go_wp2_with fail
      go_ret
      exact ⟨rfl, hA.out⟩
  · have hno : oSame ⟨gs, ss⟩ ⟨hs, ts⟩ = false := oSame_no fun e => by
      obtain ⟨h1, _⟩ := OOp.mk.inj e
      rw [h1] at e1
      omega
    have z2 : ((n : Int) == m) = false := beq_eq_false_iff_ne.2 (by omega)
    have z3 : ((n : Int) != m) = true := by rw [bne, z2]; rfl
    rw [hno]
    go_enter Tryz.func51, Tryz.ntmps51
    go_wp2_with fail
    go_ret
    exact ⟨rfl, hA.out⟩
end Go.Proofs.YtpkkjoiglemlgaaGreatDoor
