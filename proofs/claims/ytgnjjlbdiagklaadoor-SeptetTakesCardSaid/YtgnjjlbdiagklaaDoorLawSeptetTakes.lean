/-
  THE STATEMENT 'SeptetTakes': the Go function returns true whatever it is given, and its arguments read as before; its card. No condition.
-/
import Derived.Test.YtgnjjlbdiagklaaDoorSeptet6
import Derived.Test.YtgnjjlbdiagklaaDoorDHandle
import Derived.Test.YtgnjjlbdiagklaaDoorDWorld
namespace Go.Proofs.YtgnjjlbdiagklaaDoor.septetTakes
set_option linter.unusedVariables false
open Go.ChangeShapes Go.WideShapes Go.ChangeAt Go.RowKit
open Go.ChangeMaps (open_string)

theorem own : ownKnob Tryd.prog.godebug = none := by kernel_rfl
theorem laidOut : laidOutB Tryd.prog = true := by kernel_rfl
theorem rows : (Tryd.f6.params.toList.all fun t => Tryd.prog.readableRec t && decide (t < Tryd.prog.types.size)) = true := by kernel_rfl

theorem tk_scode (s : ByteArray) (p : Int) : (tk s p).2.2 = 0 ∨ sCode (sIdx (tk s p).2.2) = (tk s p).2.2 := by
  rcases tk_code s p with h | h | h | h | h <;> rw [h] <;> first | (left; rfl) | (right; rfl)
theorem tkt_scode (s : ByteArray) (p m : Int) : (tkt s p m).2.2 = 0 ∨ sCode (sIdx (tkt s p m).2.2) = (tkt s p m).2.2 := by
  unfold tkt
  split
  · exact tk_scode s p
  · split
    · right; rfl
    · split
      · right; rfl
      · left; rfl
theorem tki_scode (s : ByteArray) (p : Int) : (tki s p).2.2 = 0 ∨ sCode (sIdx (tki s p).2.2) = (tki s p).2.2 := by
  unfold tki
  split
  · left; rfl
  · exact tk_scode s p
set_option maxHeartbeats 1000000 in
theorem walk (s : ByteArray) (p m : Int) (hm : m ≤ 9223372036854775807) (W : World) (sv : Nat → Addr) (S : Sent W sv) (T : ETy W) :
    Calls Tryd.prog 6 #[.string s, .int .i64 p, .int .i64 m] W fun e w' => e = .returned (.bool true) ∧ Below W.heap.size W w' := by
  replace S := Lib.hid S
  replace T := Lib.hid T
  by_cases hs : 2000 < s.size
  · go_enter Tryd.func6, Tryd.ntmps6
    go_wp2_with fail
    refine (awake02 S.out).mono ?_; rintro e w1 ⟨rfl, hb⟩
    go_wp2_with fail
    go_ret
    exact ⟨rfl, hb⟩
  · have A1 := fun (w : World) (h : Below W.heap.size W w) => take_any (S.out.below h) s p (by omega)
    have A2 := fun (w : World) => refTake_any w s p (by omega)
    have A3 := tk_scode s p
    have B1 := fun (w : World) (h : Below W.heap.size W w) => takeText_any (S.out.below h) s p m (by omega) hm
    have B2 := fun (w : World) => refTakeText_any w s p m (by omega) hm
    have B3 := tkt_scode s p m
    have C1 := fun (w : World) (h : Below W.heap.size W w) => takeInt_any (S.out.below h) s p (by omega)
    have C2 := fun (w : World) => refTakeInt_any w s p (by omega)
    have C3 := tki_scode s p
    generalize (tk s p).1 = n1 at *
    generalize (tk s p).2.1 = b1 at *
    generalize (tk s p).2.2 = c1 at *
    generalize (tkt s p m).1 = n2 at *
    generalize (tkt s p m).2.1 = b2 at *
    generalize (tkt s p m).2.2 = c2 at *
    generalize (tki s p).1 = n3 at *
    generalize (tki s p).2.1 = b3 at *
    generalize (tki s p).2.2 = c3 at *
    replace A1 := Lib.hid A1
    replace A2 := Lib.hid A2
    replace A3 := Lib.hid A3
    replace B1 := Lib.hid B1
    replace B2 := Lib.hid B2
    replace B3 := Lib.hid B3
    replace C1 := Lib.hid C1
    replace C2 := Lib.hid C2
    replace C3 := Lib.hid C3
    go_enter Tryd.func6, Tryd.ntmps6
    go_wp2_with fail
    refine (A1.out _ (Below.refl _ _)).mono ?_; rintro e w1 ⟨v1, rfl, hv1, hb1⟩
    replace hv1 := Lib.hid hv1
    go_wp2_with fail
    refine (A2.out _).mono ?_; rintro e w2 ⟨rfl, rfl⟩
    go_wp2_with fail
    refine (wrongLaw_any (S.out.below hb1) (T.out.below hb1) _ _ _ hv1.out A3.out).mono ?_; rintro e w2 ⟨rfl, hb2⟩
    have hc2 := Below.next_ hb1 hb2
    go_wp2_with fail
    refine (B1.out _ hc2).mono ?_; rintro e w3 ⟨v2, rfl, hv2, hb3⟩
    replace hv2 := Lib.hid hv2
    have hc3 := Below.next_ hc2 hb3
    go_wp2_with fail
    refine (B2.out _).mono ?_; rintro e w4 ⟨rfl, rfl⟩
    go_wp2_with fail
    refine (wrongLaw_any (S.out.below hc3) (T.out.below hc3) _ _ _ hv2.out B3.out).mono ?_; rintro e w4 ⟨rfl, hb4⟩
    have hc4 := Below.next_ hc3 hb4
    go_wp2_with fail
    refine (C1.out _ hc4).mono ?_; rintro e w5 ⟨v3, rfl, hv3, hb5⟩
    replace hv3 := Lib.hid hv3
    have hc5 := Below.next_ hc4 hb5
    go_wp2_with fail
    refine (C2.out _).mono ?_; rintro e w6 ⟨rfl, rfl⟩
    go_wp2_with fail
    refine (wrongLaw_any (S.out.below hc5) (T.out.below hc5) _ _ _ hv3.out C3.out).mono ?_; rintro e w6 ⟨rfl, hb6⟩
    have hc6 := Below.next_ hc5 hb6
    go_wp2_with fail
    refine (awake02 (S.out.below hc6)).mono ?_; rintro e w7 ⟨rfl, hb7⟩
    go_wp2_with fail
    go_ret
    exact ⟨rfl, Below.next_ hc6 hb7⟩

theorem laid_met (os : Os) : laidMetH Tryd.prog Rows.septetTakesRow.laid ((laidWorldT os).forCall (fun _ _ => 0) ⟨#[], #[.string ⟨#[]⟩, .int .i64 0, .int .i64 0], []⟩).memory :=
  laidMetH_of_parts (laidMet_of_run' 8 (by kernel_rfl) (by kernel_rfl)) (by kernel_rfl)
theorem reads (os : Os) {H : Type} (enc : TypeId × Value → H) : ∃ places, DataW.whole enc Tryd.prog ((laidWorldT os).forCall (fun _ _ => 0) ⟨#[], #[.string ⟨#[]⟩, .int .i64 0, .int .i64 0], []⟩).memory Tryd.f6.params.toList Rows.septetTakesSpec.vars false (#[.string ⟨#[]⟩, .int .i64 0, .int .i64 0] : Array Value).toList 8 = some ([.lit (.string []), .lit (.int .i64 0), .lit (.int .i64 0)], [], places) :=
  ⟨[], by kernel_rfl⟩

set_option maxRecDepth 100000 in
theorem lifted (os : Os) (started : os.Started) (H : Type) (enc : TypeId × Value → H) (F : Stop.Interp) :
    ReturnsInHanded {} Tryd.checked os 6 .any ((OpenSpec.ofChange Rows.septetTakesSpec).preRow enc Tryd.prog Tryd.f6 Rows.septetTakesRow.domain false Rows.septetTakesRow.laid) (((OpenSpec.ofChange Rows.septetTakesSpec).at F).post enc Tryd.prog Tryd.f6 false true false false) := by
  obtain ⟨places, hx⟩ := reads os enc
  refine door_lift (C := Tryd.checked) own started (by kernel_rfl) Tryd.func6 laidOut
    (rows_of rows) Tryd.underlying4 rfl rfl
    (fun ds hd => by
      obtain ⟨d0, d1, d2, rfl⟩ : ∃ d0 d1 d2, ds = [d0, d1, d2] := by
        match ds, hd with
        | [d0, d1, d2], _ => exact ⟨d0, d1, d2, rfl⟩
      exact ⟨rfl, rfl, rfl⟩)
    (witness_row_atRef (enc := enc) (C := Tryd.checked) false (laidWorldT os) #[.string ⟨#[]⟩, .int .i64 0, .int .i64 0] rfl (by kernel_rfl) (by kernel_rfl) (by kernel_rfl)
      (OpenSpec.preRow_of_cond 8 hx (by kernel_rfl) (fun k hk => by cases hk) (by kernel_rfl) (laid_met os))) ?_
  intro W base args ds p hval0 hA0 hlt hL
  have hval : ∀ (j : Nat) t v, Tryd.f6.params[j]? = some t → args[j]? = some v → Value.okWide Tryd.prog W .any base t v := hval0
  have hA : DataW.TrodAll enc Tryd.prog W 0 (fun _ => true) true Tryd.f6.params.toList args.toList ds p := hA0
  have hL1 : laidMet Tryd.prog (sentL ++ []) W ∧ handlesMet Tryd.prog [("errors.errorType", .iface "internal/reflectlite.rtype" (.agg [.ptr (.lit (.string [101, 114, 114, 111, 114]))]))] W := hL
  obtain ⟨sv, S⟩ := sent_of_laid hL1.1
  have T := ety_of_laid hL1.2
  rw [Tryd.params6] at hA hval
  obtain ⟨v0, vs0, d0, ds0, p0, q0, hargs, rfl, rfl, h0, r0⟩ := trodAll_cons hA
  obtain ⟨v1, vs1, d1, ds1, p1, q1, rfl, rfl, rfl, h1, r1⟩ := trodAll_cons r0
  obtain ⟨v2, vs2, d2, ds2, p2, q2, rfl, rfl, rfl, h2, r2⟩ := trodAll_cons r1
  obtain ⟨rfl, rfl, rfl⟩ := trodAll_nil r2
  obtain rfl : args = #[v0, v1, v2] := by cases args; simp_all
  obtain ⟨s0, rfl, rfl, rfl, w0⟩ := open_string Tryd.underlying9 (hval 0 9 v0 rfl rfl) h0
  obtain ⟨a1, rfl, rfl, rfl, w1⟩ := open_int Tryd.underlying3 (hval 1 3 v1 rfl rfl) h1
  obtain ⟨a2, rfl, rfl, rfl, w2⟩ := open_int Tryd.underlying3 (hval 2 3 v2 rfl rfl) h2
  have b2 := bounds_i64 w2
  exact walk s0 a1 a2 b2.2 W sv S T

theorem said : Rows.SeptetTakesSaid :=
  OpenClaim.holds_of_cond 6 Tryd.f6 rfl rfl rfl rfl rfl rfl rfl ⟨rfl, rfl, rfl, rfl, rfl⟩ rfl rfl rfl rfl rfl (by kernel_rfl) Tryd.func6 (by kernel_rfl)
    (of_decide_eq_true (by kernel_rfl)) (by unfold Func.isWrapper; first | (rw [if_pos (by decide +kernel)]; kernel_rfl) | (rw [if_neg (by decide +kernel)]; exact ⟨rfl, rfl⟩))
    (fun os started H enc _ F => by rw [OpenClaim.pre_eq_preRow]; exact lifted os started H enc F)
theorem plain (f : FuncId) (fn : Func) (hf : Tryd.pinned.checked.prog.funcNamed "philtre/philtrelaw02.SeptetTakes" = some f) (hfn : Tryd.pinned.checked.prog.funcs[f]? = some fn) :
    true = Tryd.pinned.checked.prog.looks [] ∧ ∀ (j : Nat) t, fn.params[j]? = some t → Tryd.pinned.checked.prog.wantsStandIn t = false := by
  obtain rfl : f = 6 := Option.some.inj ((show Tryd.prog.funcNamed "philtre/philtrelaw02.SeptetTakes" = some 6 by kernel_rfl).symm.trans hf) |>.symm
  obtain rfl : fn = Tryd.f6 := (Option.some.inj (Tryd.func6.symm.trans hfn)).symm
  refine ⟨by kernel_rfl, fun j t ht => ?_⟩
  have h : (Tryd.f6.params.toList.all fun t => !Tryd.prog.wantsStandIn t) = true := by kernel_rfl
  have := List.all_eq_true.1 h t (by simpa using Array.mem_of_getElem? ht)
  show Tryd.prog.wantsStandIn t = false
  simpa using this

theorem proved : Rows.SeptetTakesCardSaid :=
  Claim7.holds_tied_plain_at .later [] _ _ _ _ said (fun _ h => by cases h) (by kernel_rfl) (fun _ h => by cases h) septetTakes_row_tie rfl ⟨rfl, rfl⟩ (by kernel_rfl) rfl plain (by kernel_rfl)
#print axioms proved
end Go.Proofs.YtgnjjlbdiagklaaDoor.septetTakes
