/-
  THE STATEMENT 'FailBack': the Go function returns true whatever it is given, and its arguments read as before; its card. No condition.
-/
import Derived.Test.YtgnjjlbdiagklaaDoorFailLaw
import Derived.Test.YtgnjjlbdiagklaaDoorDTab
import Derived.Test.YtgnjjlbdiagklaaDoorDWorld
namespace Go.Proofs.YtgnjjlbdiagklaaDoor.failBack
set_option linter.unusedVariables false
open Go.ChangeShapes Go.WideShapes Go.ChangeAt Go.RowKit
open Go.ChangeMaps (open_string)

theorem own : ownKnob Tryd.prog.godebug = none := by kernel_rfl
theorem laidOut : laidOutB Tryd.prog = true := by kernel_rfl
theorem rows : (Tryd.f8.params.toList.all fun t => Tryd.prog.readableRec t && decide (t < Tryd.prog.types.size)) = true := by kernel_rfl

set_option maxHeartbeats 1000000 in
theorem walk (c : Int) (A : Option Addr) (len cap : Nat) (ps : List Int) (hl : ps.length = len) (hcap : len ≤ 9223372036854775807) (W : World) (hr : Reads W W.heap.size 1 A len (intL ps)) (sv : Nat → Addr) (S : Sent W sv) (T : ETy W) (P : PTab W) :
    Calls Tryd.prog 8 #[.int .i64 c, .slice A len cap] W fun e w' => e = .returned (.bool true) ∧ Below W.heap.size W w' := by
  have AW := fun (w : World) (h : Below W.heap.size W w) => awake01 (S.below h) (T.below h) (P.below h)
  replace AW := Lib.hid AW
  by_cases hb : 300 < len
  · go_enter Tryd.func8, Tryd.ntmps8
    go_wp2_with fail
    refine (AW.out _ (Below.refl _ _)).mono ?_; rintro e w1 ⟨rfl, hb1⟩
    go_wp2_with fail
    go_ret
    exact ⟨rfl, hb1⟩
  · have hW := wrapped_any S c A len cap ps hl (by omega) hr
    have hC := fun (w : World) (v : Value) (h : Below W.heap.size W w) (k : WV w sv v ps c) => codeW_any (S.below h) v ps c k
    have hK := known_any c
    have hwant : (knownB c = true ∧ wantC c = c) ∨ (knownB c = false ∧ wantC c = 99) := by
      unfold wantC
      by_cases hk : knownB c = true
      · exact .inl ⟨hk, if_pos hk⟩
      · exact .inr ⟨by simpa using hk, if_neg hk⟩
    replace hW := Lib.hid hW
    rcases hwant with ⟨h1, h2⟩ | ⟨h1, h2⟩
    all_goals
      rw [h1] at hK
      rw [h2] at hC
      replace hK := Lib.hid hK
      replace hC := Lib.hid hC
      clear h1 h2 hr
      go_enter Tryd.func8, Tryd.ntmps8
      go_wp2_with fail
      refine (hK.out _).mono ?_; rintro e w1 ⟨rfl, rfl⟩
      go_wp2_with fail
      refine (hW.out).mono ?_; rintro e w1 ⟨v, rfl, hv, hb1⟩
      replace hv := Lib.hid hv
      go_wp2_with fail
      refine (hC.out _ _ hb1 hv.out).mono ?_; rintro e w2 ⟨rfl, rfl⟩
      go_wp2_with fail
      refine (AW.out _ hb1).mono ?_; rintro e w2 ⟨rfl, hb2⟩
      go_wp2_with fail
      go_ret
      exact ⟨rfl, Below.next_ hb1 hb2⟩

theorem laid_met (os : Os) : laidMetH Tryd.prog Rows.failBackRow.laid ((laidWorldP os).forCall (fun _ _ => 0) ⟨#[], #[.int .i64 0, .slice none 0 0], []⟩).memory :=
  laidMetH_of_parts (laidMet_of_run' 8 (by kernel_rfl) (by kernel_rfl)) (by kernel_rfl)
theorem reads (os : Os) {H : Type} (enc : TypeId × Value → H) : ∃ places, DataW.whole enc Tryd.prog ((laidWorldP os).forCall (fun _ _ => 0) ⟨#[], #[.int .i64 0, .slice none 0 0], []⟩).memory Tryd.f8.params.toList Rows.failBackSpec.vars false (#[.int .i64 0, .slice none 0 0] : Array Value).toList 8 = some ([.lit (.int .i64 0), .nil], [], places) :=
  ⟨[], by kernel_rfl⟩

set_option maxRecDepth 100000 in
theorem lifted (os : Os) (started : os.Started) (H : Type) (enc : TypeId × Value → H) (F : Stop.Interp) :
    ReturnsInHanded {} Tryd.checked os 8 .any ((OpenSpec.ofChange Rows.failBackSpec).preRow enc Tryd.prog Tryd.f8 Rows.failBackRow.domain false Rows.failBackRow.laid) (((OpenSpec.ofChange Rows.failBackSpec).at F).post enc Tryd.prog Tryd.f8 false true false false) := by
  obtain ⟨places, hx⟩ := reads os enc
  refine door_lift (C := Tryd.checked) own started (by kernel_rfl) Tryd.func8 laidOut
    (rows_of rows) Tryd.underlying4 rfl rfl
    (fun ds hd => by
      obtain ⟨d0, d1, rfl⟩ : ∃ d0 d1, ds = [d0, d1] := by
        match ds, hd with
        | [d0, d1], _ => exact ⟨d0, d1, rfl⟩
      exact ⟨rfl, rfl, rfl⟩)
    (witness_row_atRef (enc := enc) (C := Tryd.checked) false (laidWorldP os) #[.int .i64 0, .slice none 0 0] rfl (by kernel_rfl) (by kernel_rfl) (by kernel_rfl)
      (OpenSpec.preRow_of_cond 8 hx (by kernel_rfl) (fun k hk => by cases hk) (by kernel_rfl) (laid_met os))) ?_
  intro W base args ds p hval0 hA0 hlt hL
  have hval : ∀ (j : Nat) t v, Tryd.f8.params[j]? = some t → args[j]? = some v → Value.okWide Tryd.prog W .any base t v := hval0
  have hA : DataW.TrodAll enc Tryd.prog W 0 (fun _ => true) true Tryd.f8.params.toList args.toList ds p := hA0
  have hL1 : laidMet Tryd.prog ([("math/bits.deBruijn32tab", Rows.laid_math_bits_deBruijn32tab), ("math/bits.deBruijn64tab", Rows.laid_math_bits_deBruijn64tab)] ++ (("internal/strconv.uint64pow10", Rows.laid_internal_strconv_uint64pow10) :: (sentL ++ []))) W ∧ handlesMet Tryd.prog [("errors.errorType", .iface "internal/reflectlite.rtype" (.agg [.ptr (.lit (.string [101, 114, 114, 111, 114]))]))] W := hL
  have P := ptab_of_laid (laidMet_drop hL1.1)
  obtain ⟨sv, S⟩ := sent_of_laid (laidMet_drop (pre := [("internal/strconv.uint64pow10", Rows.laid_internal_strconv_uint64pow10)]) (laidMet_drop hL1.1))
  have T := ety_of_laid hL1.2
  rw [Tryd.params8] at hA hval
  obtain ⟨v0, vs0, d0, ds0, p0, q0, hargs, rfl, rfl, h0, r0⟩ := trodAll_cons hA
  obtain ⟨v1, vs1, d1, ds1, p1, q1, rfl, rfl, rfl, h1, r1⟩ := trodAll_cons r0
  obtain ⟨rfl, rfl, rfl⟩ := trodAll_nil r1
  obtain rfl : args = #[v0, v1] := by cases args; simp_all
  obtain ⟨a0, rfl, rfl, rfl, w0⟩ := open_int Tryd.underlying3 (hval 0 3 v0 rfl rfl) h0
  obtain ⟨A, len, cap, zs, rfl, hlc, hcm, hzl, hr, hwf⟩ := open_ints_list Tryd.underlying47 Tryd.underlying3 (by kernel_rfl) (hval 1 47 v1 rfl rfl) h1 (fun x hx => hlt x (by simp [hx]))
  exact walk a0 A len cap zs hzl (by unfold maxLen at hcm; omega) W hr sv S T P

theorem said : Rows.FailBackSaid :=
  OpenClaim.holds_of_cond 8 Tryd.f8 rfl rfl rfl rfl rfl rfl rfl ⟨rfl, rfl, rfl, rfl, rfl⟩ rfl rfl rfl rfl rfl (by kernel_rfl) Tryd.func8 (by kernel_rfl)
    (of_decide_eq_true (by kernel_rfl)) (by unfold Func.isWrapper; first | (rw [if_pos (by decide +kernel)]; kernel_rfl) | (rw [if_neg (by decide +kernel)]; exact ⟨rfl, rfl⟩))
    (fun os started H enc _ F => by rw [OpenClaim.pre_eq_preRow]; exact lifted os started H enc F)
theorem plain (f : FuncId) (fn : Func) (hf : Tryd.pinned.checked.prog.funcNamed "philtre/philtrelaw01.FailBack" = some f) (hfn : Tryd.pinned.checked.prog.funcs[f]? = some fn) :
    true = Tryd.pinned.checked.prog.looks [] ∧ ∀ (j : Nat) t, fn.params[j]? = some t → Tryd.pinned.checked.prog.wantsStandIn t = false := by
  obtain rfl : f = 8 := Option.some.inj ((show Tryd.prog.funcNamed "philtre/philtrelaw01.FailBack" = some 8 by kernel_rfl).symm.trans hf) |>.symm
  obtain rfl : fn = Tryd.f8 := (Option.some.inj (Tryd.func8.symm.trans hfn)).symm
  refine ⟨by kernel_rfl, fun j t ht => ?_⟩
  have h : (Tryd.f8.params.toList.all fun t => !Tryd.prog.wantsStandIn t) = true := by kernel_rfl
  have := List.all_eq_true.1 h t (by simpa using Array.mem_of_getElem? ht)
  show Tryd.prog.wantsStandIn t = false
  simpa using this

theorem proved : Rows.FailBackCardSaid :=
  Claim7.holds_tied_plain_at .later [] _ _ _ _ said (fun _ h => by cases h) (by kernel_rfl) (fun _ h => by cases h) failBack_row_tie rfl ⟨rfl, rfl⟩ (by kernel_rfl) rfl plain (by kernel_rfl)
#print axioms proved
end Go.Proofs.YtgnjjlbdiagklaaDoor.failBack
