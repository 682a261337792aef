/-
  THE STATEMENT 'SeptetTexts': the Go function returns true whatever it is given, and its arguments read as before; its card. No condition.
-/
import Derived.Test.YtgnjjlbdiagklaaDoorSeptetQ
import Derived.Test.YtgnjjlbdiagklaaDoorDHandle
import Derived.Test.YtgnjjlbdiagklaaDoorDWorld
namespace Go.Proofs.YtgnjjlbdiagklaaDoor.septetTexts
set_option linter.unusedVariables false
open Go.ChangeShapes Go.WideShapes Go.ChangeAt Go.RowKit
open Go.ChangeMaps (open_string)

theorem own : ownKnob Tryd.prog.godebug = none := by kernel_rfl
theorem laidOut : laidOutB Tryd.prog = true := by kernel_rfl
theorem rows : (Tryd.f5.params.toList.all fun t => Tryd.prog.readableRec t && decide (t < Tryd.prog.types.size)) = true := by kernel_rfl

theorem walk (s y : ByteArray) (c : Int) (W : World) (sv : Nat → Addr) (S : Sent W sv) (T : ETy W) :
    Calls Tryd.prog 5 #[.string s, .string y, .int .i64 c] W fun e w' => e = .returned (.bool true) ∧ Below W.heap.size W w' := by
  replace S := Lib.hid S
  replace T := Lib.hid T
  by_cases hs : 500 < s.size
  · go_enter Tryd.func5, Tryd.ntmps5
    go_wp2_with fail
    refine (awake02 S.out).mono ?_; rintro e w1 ⟨rfl, hb⟩
    go_wp2_with fail
    go_ret
    exact ⟨rfl, hb⟩
  · by_cases hy : 500 < y.size
    · go_enter Tryd.func5, Tryd.ntmps5
      go_wp2_with fail
      refine (awake02 S.out).mono ?_; rintro e w1 ⟨rfl, hb⟩
      go_wp2_with fail
      go_ret
      exact ⟨rfl, hb⟩
    · have P1 := fun w => putText_any s (by omega) w
      have hl := sput_ten (n := s.size) (by omega)
      have hsz : (bs (sput s.size) ++ s).size = (sput s.size).length + s.size := by simp [size_bs]
      have B1 := text_back s y (by omega)
      have B2 := fun k => text_cut s k (by omega)
      have hsy : (bs (sput s.size) ++ s ++ y).size = (bs (sput s.size) ++ s).size + y.size := by simp
      generalize bs (sput s.size) ++ s = p at *
      have hp : p.size ≤ 1000 := by omega
      have hpy : (p ++ y).size ≤ 1000000 := by omega
      have ha := fun W => run_string_add_sum (P := Tryd.prog) W p y (by omega)
      clear hl hsz hsy
      have A1 := fun (w : World) (h : Below W.heap.size W w) => takeText_any (S.out.below h) (p ++ y) 0 500 hpy (by decide)
      rw [B1] at A1
      replace P1 := Lib.hid P1
      replace A1 := Lib.hid A1
      replace B1 := Lib.hid B1
      replace B2 := Lib.hid B2
      by_cases hc : c < 0 ∨ (p.size : Int) ≤ c
      · rcases hc with hc | hc
        all_goals
          go_enter Tryd.func5, Tryd.ntmps5
          go_wp2_with fail
          refine (P1.out _).mono ?_; rintro e w1 ⟨rfl, hb1⟩
          go_wp2_with fail
          refine (A1.out _ hb1).mono ?_; rintro e w2 ⟨v, rfl, hv, hb2⟩
          obtain rfl : v = .nilIface := by
            rcases hv with ⟨_, h⟩ | ⟨h, _⟩
            · exact h
            · exact absurd rfl h
          clear hv
          have hc2 := Below.next_ hb1 hb2
          go_wp2_with fail
          refine (awake02 (S.out.below hc2)).mono ?_; rintro e w3 ⟨rfl, hb3⟩
          go_wp2_with fail
          go_ret
          exact ⟨rfl, Below.next_ hc2 hb3⟩
      · obtain ⟨k, rfl⟩ : ∃ k : Nat, c = k := ⟨c.toNat, by omega⟩
        have hk : k < p.size := by omega
        clear hc
        have A2 := fun (w : World) (h : Below W.heap.size W w) => takeText_any (S.out.below h) (p.extract 0 k) 0 500 (by simp; omega) (by decide)
        rw [B2.out k hk] at A2
        replace A2 := Lib.hid A2
        go_enter Tryd.func5, Tryd.ntmps5
        go_wp2_with fail
        refine (P1.out _).mono ?_; rintro e w1 ⟨rfl, hb1⟩
        go_wp2_with fail
        refine (A1.out _ hb1).mono ?_; rintro e w2 ⟨v, rfl, hv, hb2⟩
        obtain rfl : v = .nilIface := by
          rcases hv with ⟨_, h⟩ | ⟨h, _⟩
          · exact h
          · exact absurd rfl h
        clear hv
        have hc2 := Below.next_ hb1 hb2
        go_wp2_with fail
        refine (A2.out _ hc2).mono ?_; rintro e w3 ⟨v, rfl, hv, hb3⟩
        replace hv := Lib.hid hv
        have hc3 := Below.next_ hc2 hb3
        go_wp2_with fail
        refine (wrongLaw_any (S.out.below hc3) (T.out.below hc3) _ _ _ hv.out (.inr rfl)).mono ?_; rintro e w4 ⟨rfl, hb4⟩
        have hc4 := Below.next_ hc3 hb4
        go_wp2_with fail
        refine (awake02 (S.out.below hc4)).mono ?_; rintro e w5 ⟨rfl, hb5⟩
        go_wp2_with fail
        go_ret
        exact ⟨rfl, Below.next_ hc4 hb5⟩

theorem laid_met (os : Os) : laidMetH Tryd.prog Rows.septetTextsRow.laid ((laidWorldT os).forCall (fun _ _ => 0) ⟨#[], #[.string ⟨#[]⟩, .string ⟨#[]⟩, .int .i64 0], []⟩).memory :=
  laidMetH_of_parts (laidMet_of_run' 8 (by kernel_rfl) (by kernel_rfl)) (by kernel_rfl)
theorem reads (os : Os) {H : Type} (enc : TypeId × Value → H) : ∃ places, DataW.whole enc Tryd.prog ((laidWorldT os).forCall (fun _ _ => 0) ⟨#[], #[.string ⟨#[]⟩, .string ⟨#[]⟩, .int .i64 0], []⟩).memory Tryd.f5.params.toList Rows.septetTextsSpec.vars false (#[.string ⟨#[]⟩, .string ⟨#[]⟩, .int .i64 0] : Array Value).toList 8 = some ([.lit (.string []), .lit (.string []), .lit (.int .i64 0)], [], places) :=
  ⟨[], by kernel_rfl⟩

set_option maxRecDepth 100000 in
theorem lifted (os : Os) (started : os.Started) (H : Type) (enc : TypeId × Value → H) (F : Stop.Interp) :
    ReturnsInHanded {} Tryd.checked os 5 .any ((OpenSpec.ofChange Rows.septetTextsSpec).preRow enc Tryd.prog Tryd.f5 Rows.septetTextsRow.domain false Rows.septetTextsRow.laid) (((OpenSpec.ofChange Rows.septetTextsSpec).at F).post enc Tryd.prog Tryd.f5 false true false false) := by
  obtain ⟨places, hx⟩ := reads os enc
  refine door_lift (C := Tryd.checked) own started (by kernel_rfl) Tryd.func5 laidOut
    (rows_of rows) Tryd.underlying4 rfl rfl
    (fun ds hd => by
      obtain ⟨d0, d1, d2, rfl⟩ : ∃ d0 d1 d2, ds = [d0, d1, d2] := by
        match ds, hd with
        | [d0, d1, d2], _ => exact ⟨d0, d1, d2, rfl⟩
      exact ⟨rfl, rfl, rfl⟩)
    (witness_row_atRef (enc := enc) (C := Tryd.checked) false (laidWorldT os) #[.string ⟨#[]⟩, .string ⟨#[]⟩, .int .i64 0] rfl (by kernel_rfl) (by kernel_rfl) (by kernel_rfl)
      (OpenSpec.preRow_of_cond 8 hx (by kernel_rfl) (fun k hk => by cases hk) (by kernel_rfl) (laid_met os))) ?_
  intro W base args ds p hval0 hA0 hlt hL
  have hval : ∀ (j : Nat) t v, Tryd.f5.params[j]? = some t → args[j]? = some v → Value.okWide Tryd.prog W .any base t v := hval0
  have hA : DataW.TrodAll enc Tryd.prog W 0 (fun _ => true) true Tryd.f5.params.toList args.toList ds p := hA0
  have hL1 : laidMet Tryd.prog (sentL ++ []) W ∧ handlesMet Tryd.prog [("errors.errorType", .iface "internal/reflectlite.rtype" (.agg [.ptr (.lit (.string [101, 114, 114, 111, 114]))]))] W := hL
  obtain ⟨sv, S⟩ := sent_of_laid hL1.1
  have T := ety_of_laid hL1.2
  rw [Tryd.params5] at hA hval
  obtain ⟨v0, vs0, d0, ds0, p0, q0, hargs, rfl, rfl, h0, r0⟩ := trodAll_cons hA
  obtain ⟨v1, vs1, d1, ds1, p1, q1, rfl, rfl, rfl, h1, r1⟩ := trodAll_cons r0
  obtain ⟨v2, vs2, d2, ds2, p2, q2, rfl, rfl, rfl, h2, r2⟩ := trodAll_cons r1
  obtain ⟨rfl, rfl, rfl⟩ := trodAll_nil r2
  obtain rfl : args = #[v0, v1, v2] := by cases args; simp_all
  obtain ⟨s0, rfl, rfl, rfl, w0⟩ := open_string Tryd.underlying9 (hval 0 9 v0 rfl rfl) h0
  obtain ⟨s1, rfl, rfl, rfl, w1⟩ := open_string Tryd.underlying9 (hval 1 9 v1 rfl rfl) h1
  obtain ⟨a2, rfl, rfl, rfl, w2⟩ := open_int Tryd.underlying3 (hval 2 3 v2 rfl rfl) h2
  exact walk s0 s1 a2 W sv S T

theorem said : Rows.SeptetTextsSaid :=
  OpenClaim.holds_of_cond 5 Tryd.f5 rfl rfl rfl rfl rfl rfl rfl ⟨rfl, rfl, rfl, rfl, rfl⟩ rfl rfl rfl rfl rfl (by kernel_rfl) Tryd.func5 (by kernel_rfl)
    (of_decide_eq_true (by kernel_rfl)) (by unfold Func.isWrapper; first | (rw [if_pos (by decide +kernel)]; kernel_rfl) | (rw [if_neg (by decide +kernel)]; exact ⟨rfl, rfl⟩))
    (fun os started H enc _ F => by rw [OpenClaim.pre_eq_preRow]; exact lifted os started H enc F)
theorem plain (f : FuncId) (fn : Func) (hf : Tryd.pinned.checked.prog.funcNamed "philtre/philtrelaw02.SeptetTexts" = some f) (hfn : Tryd.pinned.checked.prog.funcs[f]? = some fn) :
    true = Tryd.pinned.checked.prog.looks [] ∧ ∀ (j : Nat) t, fn.params[j]? = some t → Tryd.pinned.checked.prog.wantsStandIn t = false := by
  obtain rfl : f = 5 := Option.some.inj ((show Tryd.prog.funcNamed "philtre/philtrelaw02.SeptetTexts" = some 5 by kernel_rfl).symm.trans hf) |>.symm
  obtain rfl : fn = Tryd.f5 := (Option.some.inj (Tryd.func5.symm.trans hfn)).symm
  refine ⟨by kernel_rfl, fun j t ht => ?_⟩
  have h : (Tryd.f5.params.toList.all fun t => !Tryd.prog.wantsStandIn t) = true := by kernel_rfl
  have := List.all_eq_true.1 h t (by simpa using Array.mem_of_getElem? ht)
  show Tryd.prog.wantsStandIn t = false
  simpa using this

theorem proved : Rows.SeptetTextsCardSaid :=
  Claim7.holds_tied_plain_at .later [] _ _ _ _ said (fun _ h => by cases h) (by kernel_rfl) (fun _ h => by cases h) septetTexts_row_tie rfl ⟨rfl, rfl⟩ (by kernel_rfl) rfl plain (by kernel_rfl)
#print axioms proved
end Go.Proofs.YtgnjjlbdiagklaaDoor.septetTexts
