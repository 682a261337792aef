/-
  The chapter's examples (layer 4). No condition.
-/
import Derived.Test.YtpmnppjiipbonaaDoorQRef3
import Derived.Test.YtpmnppjiipbonaaDoorQuote4
import Derived.Test.YtpmnppjiipbonaaDoorQuote2
namespace Go.Proofs.YtpmnppjiipbonaaDoor
set_option linter.unusedVariables false
open Go.RowKit Go.Extern.Stop Go.Stop Go.Extern Go.ChangeShapes

theorem tk_nil {w : World} {sv : Nat → Addr} {v : Value} {p c : Int} (h : TkErr w sv v p c) (hc : c = 0) : v = .nilIface := by
  rcases h with h | h
  · exact h.2
  · exact absurd hc h.1
/-- The rows that the example spells. -/
theorem ll_example (W : World) : LL (((W.alloc (.cells #[.string ⟨#[97]⟩, .string ⟨#[98]⟩] 9)).alloc (.cells #[.string ⟨#[99]⟩] 9)).alloc (.cells #[.slice (some ⟨W.heap.size, 0, none⟩) 2 2, .slice (some ⟨W.heap.size + 1, 0, none⟩) 1 1] 33)) (W.heap.size + 3) (some ⟨W.heap.size + 2, 0, none⟩) [[[97], [98]], [[99]]] := by
  have B1 := (Blk.new W 9 #[.string ⟨#[97]⟩, .string ⟨#[98]⟩]).alloc (.cells #[.string ⟨#[99]⟩] 9)
  have B1' := B1.alloc (.cells #[.slice (some ⟨W.heap.size, 0, none⟩) 2 2, .slice (some ⟨W.heap.size + 1, 0, none⟩) 1 1] 33)
  have B2 := (Blk.new (W.alloc (.cells #[.string ⟨#[97]⟩, .string ⟨#[98]⟩] 9)) 9 #[.string ⟨#[99]⟩]).alloc (.cells #[.slice (some ⟨W.heap.size, 0, none⟩) 2 2, .slice (some ⟨W.heap.size + 1, 0, none⟩) 1 1] 33)
  have B3 := Blk.new ((W.alloc (.cells #[.string ⟨#[97]⟩, .string ⟨#[98]⟩] 9)).alloc (.cells #[.string ⟨#[99]⟩] 9)) 33 #[.slice (some ⟨W.heap.size, 0, none⟩) 2 2, .slice (some ⟨W.heap.size + 1, 0, none⟩) 1 1]
  have s1 : (W.alloc (.cells #[.string ⟨#[97]⟩, .string ⟨#[98]⟩] 9)).heap.size = W.heap.size + 1 := by simp
  have s2 : ((W.alloc (.cells #[.string ⟨#[97]⟩, .string ⟨#[98]⟩] 9)).alloc (.cells #[.string ⟨#[99]⟩] 9)).heap.size = W.heap.size + 2 := by simp
  rw [s1] at B2
  rw [s2] at B3
  generalize (((W.alloc (.cells #[.string ⟨#[97]⟩, .string ⟨#[98]⟩] 9)).alloc (.cells #[.string ⟨#[99]⟩] 9)).alloc (.cells #[.slice (some ⟨W.heap.size, 0, none⟩) 2 2, .slice (some ⟨W.heap.size + 1, 0, none⟩) 1 1] 33)) = W3 at *
  have c0 := B1'.cell 0
  have c1 := B1'.cell 1
  have d0 := B2.cell 0
  have e0 := B3.cell 0
  have e1 := B3.cell 1
  intro _
  refine ⟨_, rfl, by show W.heap.size + 2 < W.heap.size + 3; omega, fun i r hi => ?_⟩
  match i, hi with
  | 0, hi =>
    injection hi with hi
    subst hi
    refine ⟨some ⟨W.heap.size, 0, none⟩, 2, e0, Nat.le_refl _, by decide, rfl, fun _ => ⟨_, rfl, by show W.heap.size < W.heap.size + 3; omega, fun j u hu => ?_⟩⟩
    match j, hu with
    | 0, hu => injection hu with hu; subst hu; exact c0
    | 1, hu => injection hu with hu; subst hu; exact c1
  | 1, hi =>
    injection hi with hi
    subst hi
    refine ⟨some ⟨W.heap.size + 1, 0, none⟩, 1, e1, Nat.le_refl _, by decide, rfl, fun _ => ⟨_, rfl, by show W.heap.size + 1 < W.heap.size + 3; omega, fun j u hu => ?_⟩⟩
    match j, hu with
    | 0, hu => injection hu with hu; subst hu; exact d0
set_option maxHeartbeats 1000000 in
set_option maxRecDepth 100000 in
theorem awake04_any {w : World} {sv : Nat → Addr} (S : Sent w sv) (T : ETy w) : Calls Tryd.prog 9 #[] w fun e w' => e = .returned (.bool true) ∧ Below w.heap.size w w' := by
  have hP := parseQ_any S ⟨#[37, 54, 49]⟩ (by decide)
  rw [show qparse (⟨#[37, 54, 49]⟩ : ByteArray).data.toList = ([], 1, 0) by kernel_rfl] at hP
  have hS := fun W (h : Below w.heap.size w W) => split_any (S.below h) ⟨#[97, 32, 98, 10, 99, 10]⟩ (by decide)
  rw [show qsplit (⟨#[97, 32, 98, 10, 99, 10]⟩ : ByteArray).data.toList = ([[[97], [98]], [[99]]], 0, 0) by kernel_rfl] at hS
  have hQ := fun W => printQ_any ⟨#[97, 32, 98]⟩ (by decide) W
  rw [show strL (qprint (⟨#[97, 32, 98]⟩ : ByteArray).data.toList) = .string ⟨#[97, 37, 50, 48, 98]⟩ by kernel_rfl] at hQ
  have hSS := fun W (h : Below w.heap.size w W) => S.below h
  have hTT := fun W (h : Below w.heap.size w W) => T.below h
  replace hP := Lib.hid hP
  replace hS := Lib.hid hS
  replace hQ := Lib.hid hQ
  replace hSS := Lib.hid hSS
  replace hTT := Lib.hid hTT
  clear S T
  go_enter Tryd.func9, Tryd.ntmps9
  go_wp2_with fail
  refine (hP.out).mono ?_; rintro e w1 ⟨v1, rfl, hv1, hb1⟩
  replace hv1 := Lib.hid hv1
  go_wp2_with fail
  refine (hS.out _ hb1).mono ?_; rintro e w2 ⟨A, c, v2, rfl, hl, hv2, hb2⟩
  obtain rfl := tk_nil hv2 rfl
  have hb02 := Below.next_ hb1 hb2
  have hv2' : TkErr w2 sv v1 0 1 := hv1.out.imp id fun ⟨a, b⟩ => ⟨a, ErrIs.under hb2 b⟩
  have hl : LL w2 w2.heap.size A [[[97], [98]], [[99]]] := hl
  replace hl := Lib.hid hl
  replace hv2' := Lib.hid hv2'
  clear hv1 hv2 hb1 hb2
  go_wp2_with fail
  refine (hQ.out _).mono ?_; rintro e w3 ⟨rfl, hb3⟩
  have hb03 := Below.next_ hb02 hb3
  have hv3 : TkErr w3 sv v1 0 1 := hv2'.out.imp id fun ⟨a, b⟩ => ⟨a, ErrIs.under hb3 b⟩
  have hl3 := (hl.out.below hb3).more hb3.size
  have hW := wrongLaw_any (hSS.out _ hb03) (hTT.out _ hb03) v1 0 1 hv3 (.inr rfl)
  replace hl3 := Lib.hid hl3
  replace hW := Lib.hid hW
  clear hl hv2' hv3
  go_wp2_with fail
  refine (hW.out).mono ?_; rintro e w4 ⟨rfl, hb4⟩
  have hb04 := Below.next_ hb03 hb4
  have hl4 := (hl3.out.below hb4).more hb4.size
  have hx := ll_example w4
  have hbx : Below w4.heap.size w4 (((w4.alloc (.cells #[.string ⟨#[97]⟩, .string ⟨#[98]⟩] 9)).alloc (.cells #[.string ⟨#[99]⟩] 9)).alloc (.cells #[.slice (some ⟨w4.heap.size, 0, none⟩) 2 2, .slice (some ⟨w4.heap.size + 1, 0, none⟩) 1 1] 33)) := (((Below.refl _ _).alloc (Nat.le_refl _) _).alloc (by simp) _).alloc (by simp; omega) _
  have hsz : (((w4.alloc (.cells #[.string ⟨#[97]⟩, .string ⟨#[98]⟩] 9)).alloc (.cells #[.string ⟨#[99]⟩] 9)).alloc (.cells #[.slice (some ⟨w4.heap.size, 0, none⟩) 2 2, .slice (some ⟨w4.heap.size + 1, 0, none⟩) 1 1] 33)).heap.size = w4.heap.size + 3 := by simp
  have hSm := refSame_any (c := c) (c2 := 2) (rows := [[[97], [98]], [[99]]]) ((hl4.below hbx).more hbx.size) (by rw [hsz]; exact hx) (by decide)
  have hb05 := Below.next_ hb04 hbx
  have hl5 := (hl4.below hbx).more hbx.size
  replace hSm := Lib.hid hSm
  replace hb05 := Lib.hid hb05
  replace hl5 := Lib.hid hl5
  clear hl3 hl4 hx hbx hsz hW
  go_wp2_with fail
  refine (hSm.out).mono ?_; rintro e w6 ⟨rfl, hb6⟩
  have hb06 := Below.next_ hb05.out hb6
  have hL := lines_any (c := c) ((hl5.out.below hb6).more hb6.size) (by decide) (by decide)
  rw [show strL (qlines [[[97], [98]], [[99]]]) = .string ⟨#[97, 32, 98, 10, 99, 10]⟩ by kernel_rfl] at hL
  replace hL := Lib.hid hL
  clear hSm hl5
  go_wp2_with fail
  refine (hL.out).mono ?_; rintro e w7 ⟨rfl, hb7⟩
  go_wp2_with fail
  go_ret
  exact ⟨rfl, Below.next_ hb06 hb7⟩
end Go.Proofs.YtpmnppjiipbonaaDoor
