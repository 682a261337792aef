import Derived.Test.YtpkkjoiglemlgaaGreatDoorBtY
import Derived.Test.YtpkkjoiglemlgaaGreatDoorBtF
import Derived.Test.YtpkkjoiglemlgaaGreatDoorOpenE
import Derived.Test.YtpkkjoiglemlgaaGreatDoorDHandle
import Derived.Test.YtpkkjoiglemlgaaGreatDoorDWorld
/-
  The walk of BatchPrints (layer 13). Where the sentinels and errors.errorType lie.
-/
namespace Go.Proofs.YtpkkjoiglemlgaaGreatDoor
set_option linter.unusedVariables false
open Go.ChangeShapes Go.WideShapes Go.ChangeAt Go.RowKit Go.Extern.Stop Go.Stop Go.Extern

set_option maxHeartbeats 1000000 in
theorem placesNil_any (w : World) : Calls Tryz.prog 27 #[.nilIface] w fun e w' => e = .returned (.slice none 0 0) ∧ Below w.heap.size w w' := by
  go_enter Tryz.func27, Tryz.ntmps27
  go_wp2_with fail
  go_loopw [0, 3] (fun e r wr => e = .nilIface ∧ r = .slice none 0 0 ∧ wr = w) (fun _ _ _ => 0)
  case atStart => exact ⟨rfl, rfl, rfl⟩
  case round =>
    obtain ⟨rfl, rfl, rfl⟩ := hrel
    go_wp2_with fail
    go_ret
    exact ⟨rfl, Below.refl _ _⟩
theorem ERow.parts {w : World} {v : Value} {l : List Ent} (h : ERow w v l) : ∃ A cap its, v = .slice A l.length cap ∧ its.length = l.length ∧ idsOf its = l.map (·.id) ∧ Reads w w.heap.size 4 A l.length (its.flatMap mk4) ∧ ∀ it ∈ its, OpIs w (.agg #[it.2.1, it.2.2]) it.1.op := by
  obtain ⟨A, cap, its, e, e1, r1, o1⟩ := h
  exact ⟨A, cap, its, e, by rw [← e1]; simp, by rw [← e1]; unfold idsOf; simp, r1, fun it hi => (o1 it hi).1⟩
theorem ids_any {w : World} {v : Value} {l : List Ent} (h : ERow w v l) (hn : l.length ≤ 1000000) :
    Calls Tryz.prog 32 #[v] w fun e w' => ∃ B c, e = .returned (.slice B (l.map (·.id)).length c) ∧ w'.ownsRow w.heap.size 23 2 (.slice B (l.map (·.id)).length c) (l.map (·.id)).length ((l.map (·.id)).flatMap idCells) ∧ Below w.heap.size w w' := by
  obtain ⟨A, cap, its, rfl, g1, g2, r1, o1⟩ := h.parts
  have hI := btIds_any (cap := cap) g1 hn r1 o1
  rwa [g2] at hI
theorem refIds_any {w : World} {v : Value} {l : List Ent} (h : ERow w v l) (hn : l.length ≤ 1000000) :
    Calls Tryz.prog 33 #[v] w fun e w' => ∃ B c, e = .returned (.slice B (l.map (·.id)).length c) ∧ w'.ownsRow w.heap.size 23 2 (.slice B (l.map (·.id)).length c) (l.map (·.id)).length ((l.map (·.id)).flatMap idCells) ∧ Below w.heap.size w w' := by
  obtain ⟨A, cap, its, rfl, g1, g2, r1, o1⟩ := h.parts
  have hI := refIdsE_any (cap := cap) g1 hn r1
  rwa [g2] at hI
set_option maxHeartbeats 4000000 in
set_option maxRecDepth 100000 in
theorem batchPrints_any {w : World} {sv : Nat → Addr} (S : Sent w sv) (T : ETy w) {v1 v2 : Value} {l1 l2 : List Ent} (h1 : ERow w v1 l1) (hc1 : ∀ A n c, v1 = .slice A n c → n ≤ c) (m1 : l1.length ≤ maxLen) (f1 : ∀ x ∈ l1, ∀ z ∈ x.op.steps, sFit z) (h2 : ERow w v2 l2) (m2 : l2.length ≤ maxLen) :
    Calls Tryz.prog 6 #[v1, v2] w fun e w' => e = .returned (.bool true) ∧ Below w.heap.size w w' := by
  have hAw := fun W (h : Below w.heap.size w W) => awake13_any (S.below h) (T.below h)
  have hF1 := few13_any h1 m1
  have hF2 := fun W (h : Below w.heap.size w W) => few13_any (h2.below h) m2
  have hR1 := fun (hn : l1.length ≤ 1000000) W (h : Below w.heap.size w W) => btRight_any (h1.below h) hn
  have hR2 := fun (hn : l1.length ≤ 1000000) W (h : Below w.heap.size w W) => refBtRight_any (h1.below h) hn hc1
  have hS1 := fun (hn : l1.length ≤ 1000000) W (h : Below w.heap.size w W) => btSame_any (h1.below h) (h2.below h) hn
  have hS2 := fun (hn : l1.length ≤ 1000000) W (h : Below w.heap.size w W) => refSameE_any (h1.below h) (h2.below h) hn
  have hI1 := fun (hn : l1.length ≤ 1000000) W (h : Below w.heap.size w W) => ids_any (h1.below h) hn
  have hI2 := fun (hn : l1.length ≤ 1000000) W (h : Below w.heap.size w W) => refIds_any (h1.below h) hn
  have hPw := fun (hr : eRight l1 = false) (hn : l1.length ≤ 1000000) W (h : Below w.heap.size w W) => btPrint_wrong (S.below h) (h1.below h) hn hr
  have hQw := fun (hr : eRight l1 = false) (hn : l1.length ≤ 1000000) W (h : Below w.heap.size w W) => refBtPrint_wrong (h1.below h) hn hc1 hr
  have hPr := fun (hr : eRight l1 = true) W (h : Below w.heap.size w W) => btPrint_right (h1.below h) f1 hr
  have hQr := fun (hr : eRight l1 = true) W (h : Below w.heap.size w W) => refBtPrint_right (h1.below h) hc1 f1 hr
  have hCd := fun W (h : Below w.heap.size w W) => code_any (S.below h) (.iface 242 (.pointer (some (sv 8)))) [] 8 ⟨by decide, rfl⟩
  have hPl := fun W (h : Below w.heap.size w W) => places_any (sv := sv) (T.below h) (.iface 242 (.pointer (some (sv 8)))) [] 8 ⟨by decide, rfl⟩ (by decide)
  rw [show sCode 8 = 9 by decide] at hCd
  clear S T h1 h2 f1
  replace hAw := Lib.hid hAw
  replace hF1 := Lib.hid hF1
  replace hF2 := Lib.hid hF2
  replace hCd := Lib.hid hCd
  replace hPl := Lib.hid hPl
  obtain ⟨r, hr⟩ : ∃ r, eRight l1 = r := ⟨_, rfl⟩
  obtain ⟨sm, hsm⟩ : ∃ s, eSame l1 l2 = s := ⟨_, rfl⟩
  rw [hsm] at hS1 hS2
  rw [hr] at hR1 hR2 hPw hQw hPr hQr
  obtain ⟨ids, hids⟩ : ∃ ids, l1.map (·.id) = ids := ⟨_, rfl⟩
  have hil : ids.length = l1.length := by rw [← hids, List.length_map]
  rw [hids] at hI1 hI2
  replace hids := Lib.hid hids
  replace hr := Lib.hid hr
  replace hsm := Lib.hid hsm
  replace hR1 := Lib.hid hR1
  replace hR2 := Lib.hid hR2
  replace hS1 := Lib.hid hS1
  replace hS2 := Lib.hid hS2
  replace hI1 := Lib.hid hI1
  replace hI2 := Lib.hid hI2
  replace hPw := Lib.hid hPw
  replace hQw := Lib.hid hQw
  replace hPr := Lib.hid hPr
  replace hQr := Lib.hid hQr
  replace hil := Lib.hid hil
  go_enter Tryz.func6, Tryz.ntmps6
  go_wp2_with fail
  refine (hF1.out).mono ?_; rintro e w1 ⟨b1, rfl, hb24, hb1⟩
  cases b1
  · clear hb24
    go_wp2_with fail
    refine (hAw.out _ hb1).mono ?_; rintro e w2 ⟨rfl, hb2⟩
    have hb3 := Below.next_ hb1 hb2
    go_wp2_with fail
    go_ret
    exact ⟨rfl, hb3⟩
  have hn24 := hb24 rfl
  have hn : l1.length ≤ 1000000 := by omega
  replace hR1 := Lib.hid (hR1.out hn)
  replace hR2 := Lib.hid (hR2.out hn)
  replace hS1 := Lib.hid (hS1.out hn)
  replace hS2 := Lib.hid (hS2.out hn)
  replace hI1 := Lib.hid (hI1.out hn)
  replace hI2 := Lib.hid (hI2.out hn)
  have hil2 : ids.length ≤ 1000000 := by rw [hil.out]; exact hn
  clear hb24
  go_wp2_with fail
  refine (hF2.out _ hb1).mono ?_; rintro e w2 ⟨b2, rfl, _, hb2⟩
  have hb3 := Below.next_ hb1 hb2
  replace hb3 := Lib.hid hb3
  clear hb1 hb2
  cases b2
  · go_wp2_with fail
    refine (hAw.out _ hb3.out).mono ?_; rintro e w4 ⟨rfl, hb4⟩
    have hb5 := Below.next_ hb3.out hb4
    go_wp2_with fail
    go_ret
    exact ⟨rfl, hb5⟩
  cases r
  · replace hPw := Lib.hid (hPw.out rfl hn)
    replace hQw := Lib.hid (hQw.out rfl hn)
    clear hPr hQr
    go_wp2_with fail
    refine (hPw.out _ hb3.out).mono ?_; rintro e w4 ⟨rfl, hb4⟩
    have q4 := Lib.hid (Below.next_ hb3.out hb4)
    clear hb4
    go_wp2_with fail
    refine (hQw.out _ q4.out).mono ?_; rintro e w5 ⟨rfl, hb5⟩
    have q5 := Lib.hid (Below.next_ q4.out hb5)
    clear hb5
    go_wp2_with fail
    refine (hCd.out _ q5.out).mono ?_; rintro e w6 ⟨rfl, hw6⟩
    subst hw6
    go_wp2_with fail
    refine (hPl.out _ q5.out).mono ?_; rintro e w6 ⟨rr, rfl, hown, hb6⟩
    obtain ⟨A6, c6, rfl⟩ := slice_ownE hown
    have q6 := Lib.hid (Below.next_ q5.out hb6)
    clear hown hb6
    go_wp2_with fail
    refine (hR1.out _ q6.out).mono ?_; rintro e w7 ⟨rfl, hb7⟩
    have q7 := Lib.hid (Below.next_ q6.out hb7)
    clear hb7
    go_wp2_with fail
    refine (hR2.out _ q7.out).mono ?_; rintro e w8 ⟨rfl, hb8⟩
    have q8 := Lib.hid (Below.next_ q7.out hb8)
    clear hb8
    go_wp2_with fail
    refine (hS1.out _ q8.out).mono ?_; rintro e w9 ⟨rfl, hb9⟩
    have q9 := Lib.hid (Below.next_ q8.out hb9)
    clear hb9
    go_wp2_with fail
    refine (hS2.out _ q9.out).mono ?_; rintro e w10 ⟨rfl, hb10⟩
    have q10 := Lib.hid (Below.next_ q9.out hb10)
    clear hb10
    go_wp2_with fail
    refine (hI1.out _ q10.out).mono ?_; rintro e w11 ⟨B1, cc1, rfl, own1, hb11⟩
    have q11 := Lib.hid (Below.next_ q10.out hb11)
    clear hb11
    go_wp2_with fail
    refine (hI2.out _ q11.out).mono ?_; rintro e w12 ⟨B2, cc2, rfl, own2, hb12⟩
    have q12 := Lib.hid (Below.next_ q11.out hb12)
    have hSm := Lib.hid (refSameI_any (cap := cc1) (cap2 := cc2) rfl hil2 (((Reads.of_own own1).below hb12).more hb12.size) (Reads.of_own own2))
    clear hb12 own1 own2
    go_wp2_with fail
    refine (hSm.out).mono ?_; rintro e w13 ⟨rfl, hb13⟩
    have q13 := Lib.hid (Below.next_ q12.out hb13)
    clear hb13
    go_wp2_with fail
    refine (hAw.out _ q13.out).mono ?_; rintro e w14 ⟨rfl, hb14⟩
    have q14 := Lib.hid (Below.next_ q13.out hb14)
    clear hb14
    go_wp2_with fail
    go_ret
    exact ⟨rfl, q14.out⟩
  · replace hPr := Lib.hid (hPr.out rfl)
    replace hQr := Lib.hid (hQr.out rfl)
    clear hPw hQw
    go_wp2_with fail
    refine (hPr.out _ hb3.out).mono ?_; rintro e w4 ⟨rfl, hb4⟩
    have q4 := Lib.hid (Below.next_ hb3.out hb4)
    clear hb4
    go_wp2_with fail
    refine (hQr.out _ q4.out).mono ?_; rintro e w5 ⟨rfl, hb5⟩
    have q5 := Lib.hid (Below.next_ q4.out hb5)
    clear hb5
    go_wp2_with fail
    refine (code_nil _).mono ?_; rintro e w6 ⟨rfl, hw6⟩
    subst hw6
    go_wp2_with fail
    refine (placesNil_any _).mono ?_; rintro e w6 ⟨rfl, hb6⟩
    have q6 := Lib.hid (Below.next_ q5.out hb6)
    clear hb6
    go_wp2_with fail
    refine (hR1.out _ q6.out).mono ?_; rintro e w7 ⟨rfl, hb7⟩
    have q7 := Lib.hid (Below.next_ q6.out hb7)
    clear hb7
    go_wp2_with fail
    refine (hR2.out _ q7.out).mono ?_; rintro e w8 ⟨rfl, hb8⟩
    have q8 := Lib.hid (Below.next_ q7.out hb8)
    clear hb8
    go_wp2_with fail
    refine (hS1.out _ q8.out).mono ?_; rintro e w9 ⟨rfl, hb9⟩
    have q9 := Lib.hid (Below.next_ q8.out hb9)
    clear hb9
    go_wp2_with fail
    refine (hS2.out _ q9.out).mono ?_; rintro e w10 ⟨rfl, hb10⟩
    have q10 := Lib.hid (Below.next_ q9.out hb10)
    clear hb10
    go_wp2_with fail
    refine (hI1.out _ q10.out).mono ?_; rintro e w11 ⟨B1, cc1, rfl, own1, hb11⟩
    have q11 := Lib.hid (Below.next_ q10.out hb11)
    clear hb11
    go_wp2_with fail
    refine (hI2.out _ q11.out).mono ?_; rintro e w12 ⟨B2, cc2, rfl, own2, hb12⟩
    have q12 := Lib.hid (Below.next_ q11.out hb12)
    have hSm := Lib.hid (refSameI_any (cap := cc1) (cap2 := cc2) rfl hil2 (((Reads.of_own own1).below hb12).more hb12.size) (Reads.of_own own2))
    clear hb12 own1 own2
    go_wp2_with fail
    refine (hSm.out).mono ?_; rintro e w13 ⟨rfl, hb13⟩
    have q13 := Lib.hid (Below.next_ q12.out hb13)
    clear hb13
    go_wp2_with fail
    refine (hAw.out _ q13.out).mono ?_; rintro e w14 ⟨rfl, hb14⟩
    have q14 := Lib.hid (Below.next_ q13.out hb14)
    clear hb14
    go_wp2_with fail
    go_ret
    exact ⟨rfl, q14.out⟩
end Go.Proofs.YtpkkjoiglemlgaaGreatDoor

/-
  THE STATEMENT 'BatchPrints': the Go function returns true whatever it is given, and its arguments read as before; its card. No condition.
-/
namespace Go.Proofs.YtpkkjoiglemlgaaGreatDoor.batchPrints
set_option linter.unusedVariables false
open Go.ChangeShapes Go.WideShapes Go.ChangeAt Go.RowKit
open Go.ChangeMaps (open_string)

theorem own : ownKnob Tryz.prog.godebug = none := by kernel_rfl
theorem laidOut : laidOutB Tryz.prog = true := by kernel_rfl
theorem rows : (Tryz.f6.params.toList.all fun t => Tryz.prog.readableRec t && decide (t < Tryz.prog.types.size)) = true := by kernel_rfl


theorem laid_met (os : Os) : laidMetH Tryz.prog Rows.batchPrintsRow.laid ((laidWorldT os).forCall (fun _ _ => 0) ⟨#[], #[.slice none 0 0, .slice none 0 0], []⟩).memory :=
  laidMetH_of_parts (laidMet_of_run' 8 (by kernel_rfl) (by kernel_rfl)) (by kernel_rfl)
theorem reads (os : Os) {H : Type} (enc : TypeId × Value → H) : ∃ places, DataW.whole enc Tryz.prog ((laidWorldT os).forCall (fun _ _ => 0) ⟨#[], #[.slice none 0 0, .slice none 0 0], []⟩).memory Tryz.f6.params.toList Rows.batchPrintsSpec.vars false (#[.slice none 0 0, .slice none 0 0] : Array Value).toList 8 = some ([.nil, .nil], [], places) :=
  ⟨[], by kernel_rfl⟩

set_option maxRecDepth 100000 in
theorem lifted (os : Os) (started : os.Started) (H : Type) (enc : TypeId × Value → H) (F : Stop.Interp) :
    ReturnsInHanded {} Tryz.checked os 6 .any ((OpenSpec.ofChange Rows.batchPrintsSpec).preRow enc Tryz.prog Tryz.f6 Rows.batchPrintsRow.domain false Rows.batchPrintsRow.laid) (((OpenSpec.ofChange Rows.batchPrintsSpec).at F).post enc Tryz.prog Tryz.f6 false true false false) := by
  obtain ⟨places, hx⟩ := reads os enc
  refine door_lift (C := Tryz.checked) own started (by kernel_rfl) Tryz.func6 laidOut
    (rows_of rows) Tryz.underlying4 rfl rfl
    (fun ds hd => by
      obtain ⟨d0, d1, rfl⟩ : ∃ d0 d1, ds = [d0, d1] := by
        match ds, hd with
        | [d0, d1], _ => exact ⟨d0, d1, rfl⟩
      exact ⟨rfl, rfl, rfl⟩)
    (witness_row_atRef (enc := enc) (C := Tryz.checked) false (laidWorldT os) #[.slice none 0 0, .slice none 0 0] rfl (by kernel_rfl) (by kernel_rfl) (by kernel_rfl)
      (OpenSpec.preRow_of_cond 8 hx (by kernel_rfl) (fun k hk => by cases hk) (by kernel_rfl) (laid_met os))) ?_
  intro W base args ds p hval0 hA0 hlt hL
  have hval : ∀ (j : Nat) t v, Tryz.f6.params[j]? = some t → args[j]? = some v → Value.okWide Tryz.prog W .any base t v := hval0
  have hA : DataW.TrodAll enc Tryz.prog W 0 (fun _ => true) true Tryz.f6.params.toList args.toList ds p := hA0
  have hL1 : laidMet Tryz.prog (sentL ++ []) W ∧ handlesMet Tryz.prog [("errors.errorType", .iface "internal/reflectlite.rtype" (.agg [.ptr (.lit (.string [101, 114, 114, 111, 114]))]))] W := hL
  obtain ⟨sv, S⟩ := sent_of_laid hL1.1
  have T := ety_of_laid hL1.2
  rw [Tryz.params6] at hA hval
  obtain ⟨v0, vs0, d0, ds0, p0, q0, hargs, rfl, rfl, h0, r0⟩ := trodAll_cons hA
  obtain ⟨v1, vs1, d1, ds1, p1, q1, rfl, rfl, rfl, h1, r1⟩ := trodAll_cons r0
  obtain ⟨rfl, rfl, rfl⟩ := trodAll_nil r1
  obtain rfl : args = #[v0, v1] := by cases args; simp_all
  obtain ⟨l0, r0', c0, m0, i0, f0⟩ := open_ents (hval 0 37 v0 rfl rfl) h0 (fun x hx => hlt x (by simp [hx]))
  obtain ⟨l1, r1', c1, m1, i1, f1⟩ := open_ents (hval 1 37 v1 rfl rfl) h1 (fun x hx => hlt x (by simp [hx]))
  exact batchPrints_any S T r0' c0 m0 f0 r1' m1

theorem said : Rows.BatchPrintsSaid :=
  OpenClaim.holds_of_cond 6 Tryz.f6 rfl rfl rfl rfl rfl rfl rfl ⟨rfl, rfl, rfl, rfl, rfl⟩ rfl rfl rfl rfl rfl (by kernel_rfl) Tryz.func6 (by kernel_rfl)
    (of_decide_eq_true (by kernel_rfl)) (by unfold Func.isWrapper; first | (rw [if_pos (by decide +kernel)]; kernel_rfl) | (rw [if_neg (by decide +kernel)]; exact ⟨rfl, rfl⟩))
    (fun os started H enc _ F => by rw [OpenClaim.pre_eq_preRow]; exact lifted os started H enc F)
theorem plain (f : FuncId) (fn : Func) (hf : Tryz.pinned.checked.prog.funcNamed "philtre/philtrelaw13.BatchPrints" = some f) (hfn : Tryz.pinned.checked.prog.funcs[f]? = some fn) :
    true = Tryz.pinned.checked.prog.looks [] ∧ ∀ (j : Nat) t, fn.params[j]? = some t → Tryz.pinned.checked.prog.wantsStandIn t = false := by
  obtain rfl : f = 6 := Option.some.inj ((show Tryz.prog.funcNamed "philtre/philtrelaw13.BatchPrints" = some 6 by kernel_rfl).symm.trans hf) |>.symm
  obtain rfl : fn = Tryz.f6 := (Option.some.inj (Tryz.func6.symm.trans hfn)).symm
  refine ⟨by kernel_rfl, fun j t ht => ?_⟩
  have h : (Tryz.f6.params.toList.all fun t => !Tryz.prog.wantsStandIn t) = true := by kernel_rfl
  have := List.all_eq_true.1 h t (by simpa using Array.mem_of_getElem? ht)
  show Tryz.prog.wantsStandIn t = false
  simpa using this

theorem proved : Rows.BatchPrintsCardSaid :=
  Claim7.holds_tied_plain_at .later [] _ _ _ _ said (fun _ h => by cases h) (by kernel_rfl) (fun _ h => by cases h) batchPrints_row_tie rfl ⟨rfl, rfl⟩ (by kernel_rfl) rfl plain (by kernel_rfl)
#print axioms proved
end Go.Proofs.YtpkkjoiglemlgaaGreatDoor.batchPrints
