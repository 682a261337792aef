/-
  opcode's parts: guards in a row, steps in a row. No condition.
-/
import Derived.Test.YtpkkjoiglemlgaaGreatDoorRdh
namespace Go.Proofs.YtpkkjoiglemlgaaGreatDoor
set_option linter.unusedVariables false
open Go.RowKit Go.Extern.Stop Go.Stop Go.Extern Go.ChangeShapes

theorem g_link {s : ByteArray} {p : Int} {k : Nat} {x y : ByteArray} (h1 : ∀ z, knd s p 3 = .ok z → k = z.1) (h2 : ∀ q, ofKind s p 3 = .ok q → (tkt s q 16).2.2 = 0 → x = (tkt s q 16).1) (h3 : k = 3 → ∀ q, thenT s 16 (ofKind s p 3) = .ok q → (tkt s q 32).2.2 = 0 → y = (tkt s q 32).1) (h4 : k ≠ 3 → y = ⟨#[]⟩) (h5 : ∀ c, knd s p 3 = .error c → k = 0) :
    (∀ g nx, pGuard s p = .ok (g, nx) → gRes s p k = .ok nx ∧ g = ⟨k, x, y⟩) ∧ (∀ e, pGuard s p = .error e → gRes s p k = .error e) := by
  unfold pGuard gRes
  unfold ofKind knd at *
  by_cases c1 : (tk s p).2.2 ≠ 0
  · simp only [if_pos c1] at *
    have hk := h5 _ rfl
    subst hk
    exact ⟨fun g nx h => (by cases h), fun e h => (by injection h with h; subst h; rw [if_neg (by decide)]; rfl)⟩
  · simp only [if_neg c1] at *
    by_cases c2 : (tk s p).1 < 1 ∨ 3 < (tk s p).1
    · simp only [if_pos c2] at *
      have hk := h5 _ rfl
      subst hk
      exact ⟨fun g nx h => (by cases h), fun e h => (by injection h with h; subst h; rw [if_neg (by decide)]; rfl)⟩
    · simp only [if_neg c2] at *
      have hk := h1 _ rfl
      simp only at hk
      subst hk
      clear h1 h5
      generalize (tk s p).1 = k at *
      have h2' := h2 _ rfl
      clear h2
      simp only [thenT] at *
      by_cases c3 : (tkt s (tk s p).2.1 16).2.2 ≠ 0
      · simp only [if_pos c3] at *
        refine ⟨fun g nx h => (by cases h), fun e h => ?_⟩
        injection h with h
        subst h
        split <;> rfl
      · simp only [if_neg c3] at *
        have hx := h2' (Classical.byContradiction c3)
        subst hx
        by_cases c4 : k = 3
        · have h3' := h3 c4 _ rfl
          clear h3 h4
          simp only [if_pos c4]
          rw [if_neg (by omega)]
          by_cases c5 : (tkt s (tkt s (tk s p).2.1 16).2.1 32).2.2 ≠ 0
          · simp only [if_pos c5] at *
            exact ⟨fun g nx h => (by cases h), fun e h => (by injection h with h; subst h; rfl)⟩
          · simp only [if_neg c5] at *
            have hy := h3' (Classical.byContradiction c5)
            subst hy
            refine ⟨fun g nx h => ?_, fun e h => (by cases h)⟩
            injection h with h
            obtain ⟨rfl, rfl⟩ := Prod.mk.inj h
            exact ⟨rfl, by rw [c4]; rfl⟩
        · have hy := h4 c4
          subst hy
          simp only [if_neg c4]
          rw [if_pos (by omega)]
          refine ⟨fun g nx h => ?_, fun e h => (by cases h)⟩
          injection h with h
          obtain ⟨rfl, rfl⟩ := Prod.mk.inj h
          exact ⟨rfl, rfl⟩
theorem s_link {s : ByteArray} {p : Int} {k : Nat} {x y z : ByteArray} {m : Int} (h : SVals s p k x y z m) :
    (∀ g nx, pStep s p = .ok (g, nx) → sRes s p k = .ok nx ∧ g = ⟨k, x, y, z, m⟩) ∧ (∀ e, pStep s p = .error e → sRes s p k = .error e) := by
  obtain ⟨h1, h5, h2, h3, h6, h7, h8, hY, hZ, hM⟩ := h
  unfold pStep sRes
  unfold ofKind knd at *
  by_cases c1 : (tk s p).2.2 ≠ 0
  · simp only [if_pos c1] at *
    have hk := h5 _ rfl
    subst hk
    exact ⟨fun g nx h => (by cases h), fun e h => (by injection h with h; subst h; rw [if_neg (by decide), if_neg (by decide), if_neg (by decide)]; rfl)⟩
  · simp only [if_neg c1] at *
    by_cases c2 : (tk s p).1 < 1 ∨ 4 < (tk s p).1
    · simp only [if_pos c2] at *
      have hk := h5 _ rfl
      subst hk
      exact ⟨fun g nx h => (by cases h), fun e h => (by injection h with h; subst h; rw [if_neg (by decide), if_neg (by decide), if_neg (by decide)]; rfl)⟩
    · simp only [if_neg c2] at *
      have hk := h1 _ rfl
      simp only at hk
      subst hk
      clear h1 h5
      generalize (tk s p).1 = k at *
      have h2' := h2 _ rfl
      clear h2
      have hk4 : k = 1 ∨ k = 2 ∨ k = 3 ∨ k = 4 := by omega
      by_cases c3 : (tkt s (tk s p).2.1 16).2.2 ≠ 0
      · simp only [thenT, if_pos c3] at *
        refine ⟨fun g nx h => (by cases h), fun e h => ?_⟩
        injection h with h
        subst h
        rcases hk4 with e | e | e | e <;> rw [e] <;> rfl
      · have hT : thenT s 16 (.ok (tk s p).2.1) = .ok (tkt s (tk s p).2.1 16).2.1 := by simp only [thenT]; rw [if_neg c3]
        simp only [hT, if_neg c3] at *
        have hx := h2' (Classical.byContradiction c3)
        subst hx
        generalize (tkt s (tk s p).2.1 16).1 = key at *
        generalize (tkt s (tk s p).2.1 16).2.1 = b at *
        unfold pStepTail
        clear c1 c2 c3 h2' hT
        rcases hk4 with rfl | rfl | rfl | rfl
        · obtain rfl := hZ (by decide)
          obtain rfl := hM (by decide)
          have h3' := h3 rfl _ rfl
          simp (config := { decide := true }) only [if_true, if_false]
          simp only [thenT]
          by_cases c5 : (tkt s b 32).2.2 ≠ 0
          · simp only [if_pos c5]
            exact ⟨fun g nx h => (by cases h), fun e h => (by injection h with h; subst h; rfl)⟩
          · simp only [if_neg c5]
            have hy := h3' (Classical.byContradiction c5)
            subst hy
            refine ⟨fun g nx h => ?_, fun e h => (by cases h)⟩
            injection h with h
            obtain ⟨rfl, rfl⟩ := Prod.mk.inj h
            exact ⟨rfl, rfl⟩
        · obtain rfl := hY (by decide) (by decide)
          obtain rfl := hZ (by decide)
          obtain rfl := hM (by decide)
          simp (config := { decide := true }) only [if_true, if_false]
          refine ⟨fun g nx h => ?_, fun e h => (by cases h)⟩
          injection h with h
          obtain ⟨rfl, rfl⟩ := Prod.mk.inj h
          exact ⟨rfl, rfl⟩
        · obtain rfl := hY (by decide) (by decide)
          obtain rfl := hZ (by decide)
          have h6' := h6 rfl _ rfl
          simp (config := { decide := true }) only [if_true, if_false]
          simp only [thenI]
          by_cases c5 : (tki s b).2.2 ≠ 0
          · simp only [if_pos c5]
            exact ⟨fun g nx h => (by cases h), fun e h => (by injection h with h; subst h; rfl)⟩
          · simp only [if_neg c5]
            have hm := h6' (Classical.byContradiction c5)
            subst hm
            refine ⟨fun g nx h => ?_, fun e h => (by cases h)⟩
            injection h with h
            obtain ⟨rfl, rfl⟩ := Prod.mk.inj h
            exact ⟨rfl, rfl⟩
        · obtain rfl := hM (by decide)
          have h7' := h7 rfl _ rfl
          simp (config := { decide := true }) only [if_true, if_false]
          by_cases c5 : (tkt s b 32).2.2 ≠ 0
          · have hT : thenT s 32 (.ok b) = .error ((tkt s b 32).2.2, b) := by simp only [thenT]; rw [if_pos c5]
            simp only [hT, if_pos c5]
            exact ⟨fun g nx h => (by cases h), fun e h => (by injection h with h; subst h; rfl)⟩
          · have hT : thenT s 32 (.ok b) = .ok (tkt s b 32).2.1 := by simp only [thenT]; rw [if_neg c5]
            simp only [hT, if_neg c5] at *
            have hz := h7' (Classical.byContradiction c5)
            subst hz
            have h8' := h8 (by first | rfl | trivial) _ rfl
            simp only [thenT]
            by_cases c6 : (tkt s (tkt s b 32).2.1 32).2.2 ≠ 0
            · simp only [if_pos c6]
              exact ⟨fun g nx h => (by cases h), fun e h => (by injection h with h; subst h; rfl)⟩
            · simp only [if_neg c6]
              have hy := h8' (Classical.byContradiction c6)
              subst hy
              refine ⟨fun g nx h => ?_, fun e h => (by cases h)⟩
              injection h with h
              obtain ⟨rfl, rfl⟩ := Prod.mk.inj h
              exact ⟨rfl, rfl⟩

/-- What lies in other blocks stays. -/
def Others (te : TypeId) (ob : Nat) (w w' : World) : Prop := ∀ b t cs, t ≠ 163 → b ≠ ob → t ≠ te → Blk w b t cs → Blk w' b t cs
theorem Others.refl (te : TypeId) (ob : Nat) (w : World) : Others te ob w w := fun _ _ _ _ _ _ h => h
theorem Others.trans {te : TypeId} {ob : Nat} {a b c : World} (h : Others te ob a b) (k : Others te ob b c) : Others te ob a c := fun i t cs h1 h2 h3 hB => k i t cs h1 h2 h3 (h i t cs h1 h2 h3 hB)
theorem Others.alloc {te : TypeId} {ob : Nat} (w : World) (o : Obj) : Others te ob w (w.alloc o) := fun _ _ _ _ _ _ h => Blk.alloc h o
theorem Others.rd {te : TypeId} {ob : Nat} {w : World} {rb : Nat} {s : ByteArray} {q : Int} {v : Value} (hR : Rd w rb s q v) (i : Nat) (u : Value) : Others te ob w (w.setCell ⟨rb, i, none⟩ u) := fun b t cs h1 _ _ h => Blk.far h (show b ≠ rb from Blk.ne_ h (show Blk w rb 163 _ from hR) h1) _
theorem others_of {te : TypeId} {w w' : World} {rb ob B size n : Nat} {s : ByteArray} {q : Int} {u v : Value} {xs : List Value} (hc : Chg (fun k => k = rb ∨ k = ob ∨ v.ownBlock = some k) w w') (hR : Rd w rb s q u) (hown : w.ownsRow B te size v n xs) : Others te ob w w' := fun b t cs h1 h2 h3 h => Blk.keep h (hc.block b h.lt fun hf => by
  rcases hf with rfl | hf | hf
  · exact Blk.ne_ h (show Blk w _ 163 _ from hR) h1 rfl
  · exact h2 hf
  · exact own_blk_ne hown h (fun e => h3 e.symm) hf)
/-- What parts has left. -/
def RowOut {α : Type} (w' : World) (rb ob : Nat) (s : ByteArray) (sv : Nat → Addr) (B : Nat) (te : TypeId) (size : Nat) (cells : α → List Value) (mk : Value → Array Value) : Except (Nat × Int × Int) (List α × Int) → Prop
  | .ok x => Rd w' rb s x.2 .nilIface ∧ ∃ v, Blk w' ob 62 (mk v) ∧ w'.ownsRow B te size v x.1.length (x.1.flatMap cells)
  | .error e => ∃ q fb u, Rd w' rb s q (.iface 209 (.pointer (some ⟨fb, 0, none⟩))) ∧ Blk w' fb 211 #[.int .i64 e.1, u] ∧ ErrIs w' sv u [e.2.2] (sIdx e.2.1)
/-- Between two rounds. -/
def PRun {α : Type} (wr : World) (rb ob : Nat) (s : ByteArray) (sv : Nat → Addr) (B : Nat) (te : TypeId) (size : Nat) (cells : α → List Value) (mk : Value → Array Value) (one : Int → Except (Int × Int) (α × Int)) (N first i : Nat) (R : Except (Nat × Int × Int) (List α × Int)) : Prop :=
  (∃ (q : Int) (gs : List α), Rd wr rb s q .nilIface ∧ gs.length = i ∧ ∃ v, Blk wr ob 62 (mk v) ∧ wr.ownsRow B te size v gs.length (gs.flatMap cells) ∧ pRow one (N - i) (first + i) q gs = R) ∨
  (∃ e, R = .error e ∧ ∃ q fb u, Rd wr rb s q (.iface 209 (.pointer (some ⟨fb, 0, none⟩))) ∧ Blk wr fb 211 #[.int .i64 e.1, u] ∧ ErrIs wr sv u [e.2.2] (sIdx e.2.1))

set_option maxHeartbeats 4000000 in
theorem partsG_any {w0 w : World} {sv : Nat → Addr} (S0 : Sent w0 sv) (h0 : Below w0.heap.size w0 w) (rb ob : Nat) (s : ByteArray) (p : Int) (hs : s.size ≤ 1000000) (N first : Nat) (hN : N ≤ 4) (hf : first ≤ 4) (h : Rd w rb s p .nilIface) (gv tv : Value)
    (hO : Blk w ob 62 #[gv, tv]) (hown : w.ownsRow w0.heap.size 94 3 gv 0 []) (hrb : w0.heap.size ≤ rb) (hob : w0.heap.size ≤ ob) :
    Calls Tryz.prog 107 #[.pointer (some ⟨rb, 0, none⟩), .pointer (some ⟨ob, 0, none⟩), .int .i64 N, .int .i64 first, .func (.func 108) #[.pointer (some ⟨rb, 0, none⟩)] #[]] w fun e w' => e = .returned (.tuple #[]) ∧
      RowOut w' rb ob s sv w0.heap.size 94 3 gCells (fun v => #[v, tv]) (pRow (pGuard s) N first p []) ∧ Below w0.heap.size w0 w' ∧ Others 94 ob w w' := by
  replace S0 := Lib.hid S0
  go_enter Tryz.func107, Tryz.ntmps107
  go_wp2_with fail
  go_loopw [10] (fun j wr => ∃ i : Nat, j = .int .i64 i ∧ i ≤ N ∧ Below w0.heap.size w0 wr ∧ Others 94 ob w wr ∧ PRun wr rb ob s sv w0.heap.size 94 3 gCells (fun v => #[v, tv]) (pGuard s) N first i (pRow (pGuard s) N first p [])) (fun j _ => N + 1 - (intOf j).toNat)
  case atStart => exact ⟨0, rfl, by omega, h0, Others.refl _ _ _, .inl ⟨p, [], h, rfl, gv, hO, hown, rfl⟩⟩
  case round =>
    obtain ⟨i, rfl, hiN, hb, hoth, hrun⟩ := hrel
    replace hoth := Lib.hid hoth
    rcases hrun with ⟨q, gs, hR, hlen, v, hOv, hownv, hrow⟩ | ⟨e, heq, q, fb, u, hR, hFb, hEr⟩
    · obtain ⟨_, _, c2, _, _⟩ := nil_cell hR
      by_cases hlt : i < N
      · obtain ⟨m, hm⟩ : ∃ m, N - i = m + 1 := ⟨N - i - 1, by omega⟩
        have hC := Lib.hid (guard_any (S0.out.below hb) rb ob w0.heap.size s q hs hR v tv gs.length (gs.flatMap gCells) hOv (by rw [hlen] at hownv ⊢; exact hownv) (by omega) hb.size)
        rw [hm, pRow] at hrow
        have hrb1 : rb < wr.heap.size := hR.lt
        have hvB := fun g hg => (World.ownsRow.lt hownv g hg).1
        replace hR := Lib.hid hR
        replace hOv := Lib.hid hOv
        replace hownv := Lib.hid hownv
        replace hm := Lib.hid hm
        replace hvB := Lib.hid hvB
        go_wp2_with fail
        refine (hC.out).mono ?_; rintro e w1 ⟨rfl, k, x', y', hk3, k1, k5, k2, k3, k4, hP⟩
        have hb1 := Lib.hid (hb.trans (hP.chg.below (fun j hj => by
          rcases hj with hj | hj | hj
          · omega
          · omega
          · exact hvB.out j hj) hb.size))
        have hoth1 := Lib.hid (hoth.out.trans (others_of hP.chg hR.out hownv.out))
        obtain ⟨L1, L2⟩ := g_link k1 k2 k3 k4 k5
        cases hone : pGuard s q with
        | ok x =>
          rw [hone] at hrow
          obtain ⟨e1, e2⟩ := L1 x.1 x.2 hone
          have hrs := hP.rs
          rw [e1] at hrs
          obtain ⟨v', hO', hown', _⟩ := hP.op
          have hR' : Rd w1 rb s x.2 .nilIface := hrs
          obtain ⟨_, _, c3, _, _⟩ := nil_cell hR'
          clear c2
          replace hR' := Lib.hid hR'
          replace hO' := Lib.hid hO'
          replace hown' := Lib.hid hown'
          replace e1 := Lib.hid e1
          replace e2 := Lib.hid e2
          replace hrow := Lib.hid hrow
          replace hone := Lib.hid hone
          clear hrs L1 L2 hP
          go_wp2_with fail
          go_roundw
          case rel => exact ⟨i + 1, by go_num, by omega, hb1.out, hoth1.out, .inl ⟨x.2, gs ++ [x.1], hR'.out, by simp [hlen], v', hO'.out, by have := hown'.out; rw [e2.out]; simpa [gCells] using this, by rw [show N - (i + 1) = m by have := hm.out; omega, show first + (i + 1) = first + i + 1 by omega]; exact hrow.out⟩⟩
          case measure => simp [intOf]; omega
        | error er =>
          rw [hone] at hrow
          have e1 := L2 er hone
          have hrs := hP.rs
          rw [e1] at hrs
          obtain ⟨q', u, hR', hE'⟩ := hrs
          obtain ⟨ty, uu, rfl⟩ := hE'.iface
          obtain ⟨_, _, c3, _, f3⟩ := nil_cell hR'
          clear c2
          have hl1 := hR'.lt
          have hlF : w0.heap.size ≤ w1.heap.size := hb1.out.size
          replace hR' := Lib.hid hR'
          replace hE' := Lib.hid hE'
          replace e1 := Lib.hid e1
          replace hrow := Lib.hid hrow
          replace hone := Lib.hid hone
          clear L1 L2 hP
          go_wp2_with fail
          go_roundw
          case rel => exact ⟨i + 1, by go_num, by omega, (hb1.out.setCell hrb _).alloc (by rw [size_setCell]; exact hlF) _, hoth1.out.trans ((Others.rd hR'.out _ _).trans (Others.alloc _ _)), .inr ⟨(first + i, er), by rw [← hrow.out], q', w1.heap.size, _, Blk.alloc (rd_err hR'.out _) _, Blk.eq_cs (by have hn := Blk.new (w1.setCell ⟨rb, 2, none⟩ (.iface 209 (.pointer (some ⟨w1.heap.size, 0, none⟩)))) 211 #[.int .i64 ((first : Int) + i), .iface ty uu]; rwa [size_setCell] at hn) (by push_cast; rfl), ErrIs.under ((Below.refl _ _).alloc (Nat.le_refl _) _) (err_set hR'.out 2 _ hE'.out)⟩⟩
          case measure => simp [intOf]; omega
      · obtain rfl : i = N := by omega
        rw [Nat.sub_self, pRow] at hrow
        replace hR := Lib.hid hR
        replace hOv := Lib.hid hOv
        replace hownv := Lib.hid hownv
        replace hrow := Lib.hid hrow
        go_wp2_with fail
        refine bodyPost_end (v := .tuple #[]) (results_none (by kernel_rfl) _ _ _) rfl ⟨rfl, ?_, hb, hoth.out⟩
        rw [← hrow.out]
        exact ⟨hR.out, v, hOv.out, by rw [hlen]; have := hownv.out; rw [hlen] at this; exact this⟩
    · obtain ⟨_, _, c2, _, _⟩ := nil_cell hR
      replace hR := Lib.hid hR
      replace hFb := Lib.hid hFb
      replace hEr := Lib.hid hEr
      replace heq := Lib.hid heq
      by_cases hlt : i < N
      all_goals
        go_wp2_with fail
        refine bodyPost_end (v := .tuple #[]) (results_none (by kernel_rfl) _ _ _) rfl ⟨rfl, ?_, hb, hoth.out⟩
        rw [heq.out]
        exact ⟨q, fb, u, hR.out, hFb.out, hEr.out⟩

set_option maxHeartbeats 4000000 in
theorem partsS_any {w0 w : World} {sv : Nat → Addr} (S0 : Sent w0 sv) (h0 : Below w0.heap.size w0 w) (rb ob : Nat) (s : ByteArray) (p : Int) (hs : s.size ≤ 1000000) (N first : Nat) (hN : N ≤ 4) (hf : first ≤ 4) (h : Rd w rb s p .nilIface) (gv tv : Value)
    (hO : Blk w ob 62 #[tv, gv]) (hown : w.ownsRow w0.heap.size 96 5 gv 0 []) (hrb : w0.heap.size ≤ rb) (hob : w0.heap.size ≤ ob) :
    Calls Tryz.prog 107 #[.pointer (some ⟨rb, 0, none⟩), .pointer (some ⟨ob, 0, none⟩), .int .i64 N, .int .i64 first, .func (.func 109) #[.pointer (some ⟨rb, 0, none⟩)] #[]] w fun e w' => e = .returned (.tuple #[]) ∧
      RowOut w' rb ob s sv w0.heap.size 96 5 sCells (fun v => #[tv, v]) (pRow (pStep s) N first p []) ∧ Below w0.heap.size w0 w' ∧ Others 96 ob w w' := by
  replace S0 := Lib.hid S0
  go_enter Tryz.func107, Tryz.ntmps107
  go_wp2_with fail
  go_loopw [10] (fun j wr => ∃ i : Nat, j = .int .i64 i ∧ i ≤ N ∧ Below w0.heap.size w0 wr ∧ Others 96 ob w wr ∧ PRun wr rb ob s sv w0.heap.size 96 5 sCells (fun v => #[tv, v]) (pStep s) N first i (pRow (pStep s) N first p [])) (fun j _ => N + 1 - (intOf j).toNat)
  case atStart => exact ⟨0, rfl, by omega, h0, Others.refl _ _ _, .inl ⟨p, [], h, rfl, gv, hO, hown, rfl⟩⟩
  case round =>
    obtain ⟨i, rfl, hiN, hb, hoth, hrun⟩ := hrel
    replace hoth := Lib.hid hoth
    rcases hrun with ⟨q, gs, hR, hlen, v, hOv, hownv, hrow⟩ | ⟨e, heq, q, fb, u, hR, hFb, hEr⟩
    · obtain ⟨_, _, c2, _, _⟩ := nil_cell hR
      by_cases hlt : i < N
      · obtain ⟨m, hm⟩ : ∃ m, N - i = m + 1 := ⟨N - i - 1, by omega⟩
        have hC := Lib.hid (step_any (S0.out.below hb) rb ob w0.heap.size s q hs hR tv v gs.length (gs.flatMap sCells) hOv (by rw [hlen] at hownv ⊢; exact hownv) (by omega) hb.size)
        rw [hm, pRow] at hrow
        have hrb1 : rb < wr.heap.size := hR.lt
        have hvB := fun g hg => (World.ownsRow.lt hownv g hg).1
        replace hR := Lib.hid hR
        replace hOv := Lib.hid hOv
        replace hownv := Lib.hid hownv
        replace hm := Lib.hid hm
        replace hvB := Lib.hid hvB
        go_wp2_with fail
        refine (hC.out).mono ?_; rintro e w1 ⟨rfl, k, x', y', z', m', hk4, hV, hP⟩
        have hb1 := Lib.hid (hb.trans (hP.chg.below (fun j hj => by
          rcases hj with hj | hj | hj
          · omega
          · omega
          · exact hvB.out j hj) hb.size))
        have hoth1 := Lib.hid (hoth.out.trans (others_of hP.chg hR.out hownv.out))
        obtain ⟨L1, L2⟩ := s_link hV
        cases hone : pStep s q with
        | ok x =>
          rw [hone] at hrow
          obtain ⟨e1, e2⟩ := L1 x.1 x.2 hone
          have hrs := hP.rs
          rw [e1] at hrs
          obtain ⟨v', hO', hown', _⟩ := hP.op
          have hR' : Rd w1 rb s x.2 .nilIface := hrs
          obtain ⟨_, _, c3, _, _⟩ := nil_cell hR'
          clear c2
          replace hR' := Lib.hid hR'
          replace hO' := Lib.hid hO'
          replace hown' := Lib.hid hown'
          replace e1 := Lib.hid e1
          replace e2 := Lib.hid e2
          replace hrow := Lib.hid hrow
          replace hone := Lib.hid hone
          clear hrs L1 L2 hP
          go_wp2_with fail
          go_roundw
          case rel => exact ⟨i + 1, by go_num, by omega, hb1.out, hoth1.out, .inl ⟨x.2, gs ++ [x.1], hR'.out, by simp [hlen], v', hO'.out, by have := hown'.out; rw [e2.out]; simpa [sCells] using this, by rw [show N - (i + 1) = m by have := hm.out; omega, show first + (i + 1) = first + i + 1 by omega]; exact hrow.out⟩⟩
          case measure => simp [intOf]; omega
        | error er =>
          rw [hone] at hrow
          have e1 := L2 er hone
          have hrs := hP.rs
          rw [e1] at hrs
          obtain ⟨q', u, hR', hE'⟩ := hrs
          obtain ⟨ty, uu, rfl⟩ := hE'.iface
          obtain ⟨_, _, c3, _, f3⟩ := nil_cell hR'
          clear c2
          have hl1 := hR'.lt
          have hlF : w0.heap.size ≤ w1.heap.size := hb1.out.size
          replace hR' := Lib.hid hR'
          replace hE' := Lib.hid hE'
          replace e1 := Lib.hid e1
          replace hrow := Lib.hid hrow
          replace hone := Lib.hid hone
          clear L1 L2 hP
          go_wp2_with fail
          go_roundw
          case rel => exact ⟨i + 1, by go_num, by omega, (hb1.out.setCell hrb _).alloc (by rw [size_setCell]; exact hlF) _, hoth1.out.trans ((Others.rd hR'.out _ _).trans (Others.alloc _ _)), .inr ⟨(first + i, er), by rw [← hrow.out], q', w1.heap.size, _, Blk.alloc (rd_err hR'.out _) _, Blk.eq_cs (by have hn := Blk.new (w1.setCell ⟨rb, 2, none⟩ (.iface 209 (.pointer (some ⟨w1.heap.size, 0, none⟩)))) 211 #[.int .i64 ((first : Int) + i), .iface ty uu]; rwa [size_setCell] at hn) (by push_cast; rfl), ErrIs.under ((Below.refl _ _).alloc (Nat.le_refl _) _) (err_set hR'.out 2 _ hE'.out)⟩⟩
          case measure => simp [intOf]; omega
      · obtain rfl : i = N := by omega
        rw [Nat.sub_self, pRow] at hrow
        replace hR := Lib.hid hR
        replace hOv := Lib.hid hOv
        replace hownv := Lib.hid hownv
        replace hrow := Lib.hid hrow
        go_wp2_with fail
        refine bodyPost_end (v := .tuple #[]) (results_none (by kernel_rfl) _ _ _) rfl ⟨rfl, ?_, hb, hoth.out⟩
        rw [← hrow.out]
        exact ⟨hR.out, v, hOv.out, by rw [hlen]; have := hownv.out; rw [hlen] at this; exact this⟩
    · obtain ⟨_, _, c2, _, _⟩ := nil_cell hR
      replace hR := Lib.hid hR
      replace hFb := Lib.hid hFb
      replace hEr := Lib.hid hEr
      replace heq := Lib.hid heq
      by_cases hlt : i < N
      all_goals
        go_wp2_with fail
        refine bodyPost_end (v := .tuple #[]) (results_none (by kernel_rfl) _ _ _) rfl ⟨rfl, ?_, hb, hoth.out⟩
        rw [heq.out]
        exact ⟨q, fb, u, hR.out, hFb.out, hEr.out⟩
theorem parts_none {w : World} (rb ob : Nat) (first : Int) (f : Value) : Calls Tryz.prog 107 #[.pointer (some ⟨rb, 0, none⟩), .pointer (some ⟨ob, 0, none⟩), .int .i64 0, .int .i64 first, f] w fun e w' => e = .returned (.tuple #[]) ∧ w = w' := by
  go_enter Tryz.func107, Tryz.ntmps107
  go_wp2_with fail
  go_loopw [10] (fun j wr => wr = w ∧ j = .int .i64 0) (fun _ _ => 0)
  case atStart => exact ⟨rfl, rfl⟩
  case round =>
    obtain ⟨rfl, rfl⟩ := hrel
    go_wp2_with fail
    exact bodyPost_end (v := .tuple #[]) (results_none (by kernel_rfl) _ _ _) rfl ⟨rfl, rfl⟩
end Go.Proofs.YtpkkjoiglemlgaaGreatDoor
