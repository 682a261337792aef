/-
  THE STATEMENT 'FailApart': the Go function returns true whatever it is given, and its arguments read as before; its card. No condition.
-/
import Derived.Test.YtgnjjlbdiagklaaDoorFailLaw
import Derived.Test.YtgnjjlbdiagklaaDoorDTab
import Derived.Test.YtgnjjlbdiagklaaDoorDWorld
namespace Go.Proofs.YtgnjjlbdiagklaaDoor.failApart
set_option linter.unusedVariables false
open Go.ChangeShapes Go.WideShapes Go.ChangeAt Go.RowKit
open Go.ChangeMaps (open_string)

theorem own : ownKnob Tryd.prog.godebug = none := by kernel_rfl
theorem laidOut : laidOutB Tryd.prog = true := by kernel_rfl
theorem rows : (Tryd.f9.params.toList.all fun t => Tryd.prog.readableRec t && decide (t < Tryd.prog.types.size)) = true := by kernel_rfl

theorem want_known {c : Int} (h : knownB c = true) : wantC c = c := if_pos h
set_option maxHeartbeats 1000000 in
theorem walk (c d : Int) (A : Option Addr) (len cap : Nat) (ps : List Int) (hl : ps.length = len) (hcap : len ≤ 9223372036854775807) (W : World) (hr : Reads W W.heap.size 1 A len (intL ps)) (sv : Nat → Addr) (S : Sent W sv) (T : ETy W) (P : PTab W) :
    Calls Tryd.prog 9 #[.int .i64 c, .int .i64 d, .slice A len cap] W fun e w' => e = .returned (.bool true) ∧ Below W.heap.size W w' := by
  have AW := fun (w : World) (h : Below W.heap.size W w) => awake01 (S.below h) (T.below h) (P.below h)
  replace AW := Lib.hid AW
  by_cases hb : 100 < len
  · go_enter Tryd.func9, Tryd.ntmps9
    go_wp2_with fail
    refine (AW.out _ (Below.refl _ _)).mono ?_; rintro e w1 ⟨rfl, hb1⟩
    go_wp2_with fail
    go_ret
    exact ⟨rfl, hb1⟩
  · have hK1 := known_any c
    have hK2 := known_any d
    by_cases hc : knownB c = true
    · by_cases hd : knownB d = true
      · have hW := wrapped_any S c A len cap ps hl (by omega) hr
        have hW2 := fun (w : World) (h : Below W.heap.size W w) => wrapped_any (S.below h) d none 0 0 [] rfl (by omega) Reads.none_
        have hC := fun (w : World) (v : Value) (h : Below W.heap.size W w) (k : WV w sv v ps c) => codeW_any (S.below h) v ps c k
        have hC2 := fun (w : World) (v : Value) (h : Below W.heap.size W w) (k : WV w sv v [] d) => codeW_any (S.below h) v [] d k
        rw [want_known hc] at hC
        rw [want_known hd] at hC2
        rw [hc] at hK1
        rw [hd] at hK2
        clear hc hd hr
        replace hK1 := Lib.hid hK1
        replace hK2 := Lib.hid hK2
        replace hW := Lib.hid hW
        replace hW2 := Lib.hid hW2
        replace hC := Lib.hid hC
        replace hC2 := Lib.hid hC2
        have hbb := bool_beq_self
        replace hbb := Lib.hid hbb
        by_cases hcd : c = d
        · subst hcd
          have hself := bool_beq_self (c == 0)
          replace hbb := hbb.out true
          go_enter Tryd.func9, Tryd.ntmps9
          go_wp2_with fail
          refine (hK1.out _).mono ?_; rintro e w1 ⟨rfl, rfl⟩
          go_wp2_with fail
          refine (hK2.out _).mono ?_; rintro e w1 ⟨rfl, rfl⟩
          go_wp2_with fail
          refine (hW.out).mono ?_; rintro e w1 ⟨v1, rfl, hv1, hb1⟩
          replace hv1 := Lib.hid hv1
          go_wp2_with fail
          refine (hW2.out _ hb1).mono ?_; rintro e w2 ⟨v2, rfl, hv2, hb2⟩
          replace hv2 := Lib.hid hv2
          have hc2 := Below.next_ hb1 hb2
          go_wp2_with fail
          refine (hC.out _ _ hc2 (WV.under hb2 hv1.out)).mono ?_; rintro e w3 ⟨rfl, rfl⟩
          go_wp2_with fail
          refine (hC2.out _ _ hc2 hv2.out).mono ?_; rintro e w3 ⟨rfl, rfl⟩
          rcases hv1.out with ⟨rfl, rfl⟩ | ⟨h0, h⟩
          · go_wp2_with fail
            refine (AW.out _ hc2).mono ?_; rintro e w4 ⟨rfl, hb4⟩
            go_wp2_with fail
            go_ret
            exact ⟨rfl, Below.next_ hc2 hb4⟩
          · obtain ⟨t, u, rfl⟩ := h.iface
            have h00 : (c == 0) = false := by simpa using h0
            clear h0 h hself
            go_wp2_with fail
            refine (AW.out _ hc2).mono ?_; rintro e w4 ⟨rfl, hb4⟩
            go_wp2_with fail
            go_ret
            exact ⟨rfl, Below.next_ hc2 hb4⟩
        · have hcd' : (c == d) = false := by simpa using hcd
          clear hcd
          go_enter Tryd.func9, Tryd.ntmps9
          go_wp2_with fail
          refine (hK1.out _).mono ?_; rintro e w1 ⟨rfl, rfl⟩
          go_wp2_with fail
          refine (hK2.out _).mono ?_; rintro e w1 ⟨rfl, rfl⟩
          go_wp2_with fail
          refine (hW.out).mono ?_; rintro e w1 ⟨v1, rfl, hv1, hb1⟩
          replace hv1 := Lib.hid hv1
          go_wp2_with fail
          refine (hW2.out _ hb1).mono ?_; rintro e w2 ⟨v2, rfl, hv2, hb2⟩
          replace hv2 := Lib.hid hv2
          have hc2 := Below.next_ hb1 hb2
          go_wp2_with fail
          refine (hC.out _ _ hc2 (WV.under hb2 hv1.out)).mono ?_; rintro e w3 ⟨rfl, rfl⟩
          go_wp2_with fail
          refine (hC2.out _ _ hc2 hv2.out).mono ?_; rintro e w3 ⟨rfl, rfl⟩
          rcases hv1.out with ⟨rfl, rfl⟩ | ⟨h0, h⟩
          · go_wp2_with fail
            refine (AW.out _ hc2).mono ?_; rintro e w4 ⟨rfl, hb4⟩
            go_wp2_with fail
            go_ret
            exact ⟨rfl, Below.next_ hc2 hb4⟩
          · obtain ⟨t, u, rfl⟩ := h.iface
            have h00 : (c == 0) = false := by simpa using h0
            clear h0 h
            go_wp2_with fail
            refine (AW.out _ hc2).mono ?_; rintro e w4 ⟨rfl, hb4⟩
            go_wp2_with fail
            go_ret
            exact ⟨rfl, Below.next_ hc2 hb4⟩
      · rw [hc] at hK1
        rw [show knownB d = false by simpa using hd] at hK2
        clear hc hd hr
        replace hK1 := Lib.hid hK1
        replace hK2 := Lib.hid hK2
        go_enter Tryd.func9, Tryd.ntmps9
        go_wp2_with fail
        refine (hK1.out _).mono ?_; rintro e w1 ⟨rfl, rfl⟩
        go_wp2_with fail
        refine (hK2.out _).mono ?_; rintro e w1 ⟨rfl, rfl⟩
        go_wp2_with fail
        refine (AW.out _ (Below.refl _ _)).mono ?_; rintro e w1 ⟨rfl, hb1⟩
        go_wp2_with fail
        go_ret
        exact ⟨rfl, hb1⟩
    · rw [show knownB c = false by simpa using hc] at hK1
      clear hc hr
      replace hK1 := Lib.hid hK1
      go_enter Tryd.func9, Tryd.ntmps9
      go_wp2_with fail
      refine (hK1.out _).mono ?_; rintro e w1 ⟨rfl, rfl⟩
      go_wp2_with fail
      refine (AW.out _ (Below.refl _ _)).mono ?_; rintro e w1 ⟨rfl, hb1⟩
      go_wp2_with fail
      go_ret
      exact ⟨rfl, hb1⟩

theorem laid_met (os : Os) : laidMetH Tryd.prog Rows.failApartRow.laid ((laidWorldP os).forCall (fun _ _ => 0) ⟨#[], #[.int .i64 0, .int .i64 0, .slice none 0 0], []⟩).memory :=
  laidMetH_of_parts (laidMet_of_run' 8 (by kernel_rfl) (by kernel_rfl)) (by kernel_rfl)
theorem reads (os : Os) {H : Type} (enc : TypeId × Value → H) : ∃ places, DataW.whole enc Tryd.prog ((laidWorldP os).forCall (fun _ _ => 0) ⟨#[], #[.int .i64 0, .int .i64 0, .slice none 0 0], []⟩).memory Tryd.f9.params.toList Rows.failApartSpec.vars false (#[.int .i64 0, .int .i64 0, .slice none 0 0] : Array Value).toList 8 = some ([.lit (.int .i64 0), .lit (.int .i64 0), .nil], [], places) :=
  ⟨[], by kernel_rfl⟩

set_option maxRecDepth 100000 in
theorem lifted (os : Os) (started : os.Started) (H : Type) (enc : TypeId × Value → H) (F : Stop.Interp) :
    ReturnsInHanded {} Tryd.checked os 9 .any ((OpenSpec.ofChange Rows.failApartSpec).preRow enc Tryd.prog Tryd.f9 Rows.failApartRow.domain false Rows.failApartRow.laid) (((OpenSpec.ofChange Rows.failApartSpec).at F).post enc Tryd.prog Tryd.f9 false true false false) := by
  obtain ⟨places, hx⟩ := reads os enc
  refine door_lift (C := Tryd.checked) own started (by kernel_rfl) Tryd.func9 laidOut
    (rows_of rows) Tryd.underlying4 rfl rfl
    (fun ds hd => by
      obtain ⟨d0, d1, d2, rfl⟩ : ∃ d0 d1 d2, ds = [d0, d1, d2] := by
        match ds, hd with
        | [d0, d1, d2], _ => exact ⟨d0, d1, d2, rfl⟩
      exact ⟨rfl, rfl, rfl⟩)
    (witness_row_atRef (enc := enc) (C := Tryd.checked) false (laidWorldP os) #[.int .i64 0, .int .i64 0, .slice none 0 0] rfl (by kernel_rfl) (by kernel_rfl) (by kernel_rfl)
      (OpenSpec.preRow_of_cond 8 hx (by kernel_rfl) (fun k hk => by cases hk) (by kernel_rfl) (laid_met os))) ?_
  intro W base args ds p hval0 hA0 hlt hL
  have hval : ∀ (j : Nat) t v, Tryd.f9.params[j]? = some t → args[j]? = some v → Value.okWide Tryd.prog W .any base t v := hval0
  have hA : DataW.TrodAll enc Tryd.prog W 0 (fun _ => true) true Tryd.f9.params.toList args.toList ds p := hA0
  have hL1 : laidMet Tryd.prog ([("math/bits.deBruijn32tab", Rows.laid_math_bits_deBruijn32tab), ("math/bits.deBruijn64tab", Rows.laid_math_bits_deBruijn64tab)] ++ (("internal/strconv.uint64pow10", Rows.laid_internal_strconv_uint64pow10) :: (sentL ++ []))) W ∧ handlesMet Tryd.prog [("errors.errorType", .iface "internal/reflectlite.rtype" (.agg [.ptr (.lit (.string [101, 114, 114, 111, 114]))]))] W := hL
  have P := ptab_of_laid (laidMet_drop hL1.1)
  obtain ⟨sv, S⟩ := sent_of_laid (laidMet_drop (pre := [("internal/strconv.uint64pow10", Rows.laid_internal_strconv_uint64pow10)]) (laidMet_drop hL1.1))
  have T := ety_of_laid hL1.2
  rw [Tryd.params9] at hA hval
  obtain ⟨v0, vs0, d0, ds0, p0, q0, hargs, rfl, rfl, h0, r0⟩ := trodAll_cons hA
  obtain ⟨v1, vs1, d1, ds1, p1, q1, rfl, rfl, rfl, h1, r1⟩ := trodAll_cons r0
  obtain ⟨v2, vs2, d2, ds2, p2, q2, rfl, rfl, rfl, h2, r2⟩ := trodAll_cons r1
  obtain ⟨rfl, rfl, rfl⟩ := trodAll_nil r2
  obtain rfl : args = #[v0, v1, v2] := by cases args; simp_all
  obtain ⟨a0, rfl, rfl, rfl, w0⟩ := open_int Tryd.underlying3 (hval 0 3 v0 rfl rfl) h0
  obtain ⟨a1, rfl, rfl, rfl, w1⟩ := open_int Tryd.underlying3 (hval 1 3 v1 rfl rfl) h1
  obtain ⟨A, len, cap, zs, rfl, hlc, hcm, hzl, hr, hwf⟩ := open_ints_list Tryd.underlying47 Tryd.underlying3 (by kernel_rfl) (hval 2 47 v2 rfl rfl) h2 (fun x hx => hlt x (by simp [hx]))
  exact walk a0 a1 A len cap zs hzl (by unfold maxLen at hcm; omega) W hr sv S T P

theorem said : Rows.FailApartSaid :=
  OpenClaim.holds_of_cond 9 Tryd.f9 rfl rfl rfl rfl rfl rfl rfl ⟨rfl, rfl, rfl, rfl, rfl⟩ rfl rfl rfl rfl rfl (by kernel_rfl) Tryd.func9 (by kernel_rfl)
    (of_decide_eq_true (by kernel_rfl)) (by unfold Func.isWrapper; first | (rw [if_pos (by decide +kernel)]; kernel_rfl) | (rw [if_neg (by decide +kernel)]; exact ⟨rfl, rfl⟩))
    (fun os started H enc _ F => by rw [OpenClaim.pre_eq_preRow]; exact lifted os started H enc F)
theorem plain (f : FuncId) (fn : Func) (hf : Tryd.pinned.checked.prog.funcNamed "philtre/philtrelaw01.FailApart" = some f) (hfn : Tryd.pinned.checked.prog.funcs[f]? = some fn) :
    true = Tryd.pinned.checked.prog.looks [] ∧ ∀ (j : Nat) t, fn.params[j]? = some t → Tryd.pinned.checked.prog.wantsStandIn t = false := by
  obtain rfl : f = 9 := Option.some.inj ((show Tryd.prog.funcNamed "philtre/philtrelaw01.FailApart" = some 9 by kernel_rfl).symm.trans hf) |>.symm
  obtain rfl : fn = Tryd.f9 := (Option.some.inj (Tryd.func9.symm.trans hfn)).symm
  refine ⟨by kernel_rfl, fun j t ht => ?_⟩
  have h : (Tryd.f9.params.toList.all fun t => !Tryd.prog.wantsStandIn t) = true := by kernel_rfl
  have := List.all_eq_true.1 h t (by simpa using Array.mem_of_getElem? ht)
  show Tryd.prog.wantsStandIn t = false
  simpa using this

theorem proved : Rows.FailApartCardSaid :=
  Claim7.holds_tied_plain_at .later [] _ _ _ _ said (fun _ h => by cases h) (by kernel_rfl) (fun _ h => by cases h) failApart_row_tie rfl ⟨rfl, rfl⟩ (by kernel_rfl) rfl plain (by kernel_rfl)
#print axioms proved
end Go.Proofs.YtgnjjlbdiagklaaDoor.failApart
