/-
  THE STATEMENT 'FailTells': the Go function returns true whatever it is given, and its arguments read as before; its card. No condition.
-/
import Derived.Test.YtgnjjlbdiagklaaDoorFailLaw
import Derived.Test.YtgnjjlbdiagklaaDoorDTab
import Derived.Test.YtgnjjlbdiagklaaDoorDWorld
namespace Go.Proofs.YtgnjjlbdiagklaaDoor.failTells
set_option linter.unusedVariables false
open Go.ChangeShapes Go.WideShapes Go.ChangeAt Go.RowKit
open Go.ChangeMaps (open_string)

theorem own : ownKnob Tryd.prog.godebug = none := by kernel_rfl
theorem laidOut : laidOutB Tryd.prog = true := by kernel_rfl
theorem rows : (Tryd.f7.params.toList.all fun t => Tryd.prog.readableRec t && decide (t < Tryd.prog.types.size)) = true := by kernel_rfl

set_option maxHeartbeats 1000000 in
theorem walk (c : Int) (A : Option Addr) (len cap : Nat) (ps : List Int) (hl : ps.length = len) (hcap : len ≤ 9223372036854775807) (hp : ∀ p ∈ ps, -9223372036854775808 ≤ p ∧ p ≤ 9223372036854775807) (W : World) (hr : Reads W W.heap.size 1 A len (intL ps)) (sv : Nat → Addr) (S : Sent W sv) (T : ETy W) (P : PTab W) :
    Calls Tryd.prog 7 #[.int .i64 c, .slice A len cap] W fun e w' => e = .returned (.bool true) ∧ Below W.heap.size W w' := by
  have AW := fun (w : World) (h : Below W.heap.size W w) => awake01 (S.below h) (T.below h) (P.below h)
  replace AW := Lib.hid AW
  by_cases hb : 100 < len
  · go_enter Tryd.func7, Tryd.ntmps7
    go_wp2_with fail
    refine (AW.out _ (Below.refl _ _)).mono ?_; rintro e w1 ⟨rfl, hb1⟩
    go_wp2_with fail
    go_ret
    exact ⟨rfl, hb1⟩
  · have hK1 := known_any c
    have hK2 := refKnown_any c
    have hW := wrapped_any S c A len cap ps hl (by omega) hr
    replace hW := Lib.hid hW
    by_cases hc : c = 0
    · subst hc
      rw [show knownB 0 = true from rfl] at hK1 hK2
      replace hK1 := Lib.hid hK1
      replace hK2 := Lib.hid hK2
      go_enter Tryd.func7, Tryd.ntmps7
      go_wp2_with fail
      refine (hW.out).mono ?_; rintro e w1 ⟨v, rfl, hv, hb1⟩
      obtain rfl : v = .nilIface := by
        rcases hv with ⟨_, h⟩ | ⟨h, _⟩
        · exact h
        · exact absurd rfl h
      clear hv
      go_wp2_with fail
      refine (hK1.out _).mono ?_; rintro e w2 ⟨rfl, rfl⟩
      go_wp2_with fail
      refine (hK2.out _).mono ?_; rintro e w2 ⟨rfl, rfl⟩
      go_wp2_with fail
      refine (code_nil _).mono ?_; rintro e w2 ⟨rfl, rfl⟩
      go_wp2_with fail
      refine (places_nil _).mono ?_; rintro e w2 ⟨rfl, rfl⟩
      go_wp2_with fail
      refine (text_nil _).mono ?_; rintro e w2 ⟨rfl, rfl⟩
      rw [show strL [] = .string ⟨#[]⟩ from rfl]
      go_wp2_with fail
      refine (AW.out _ hb1).mono ?_; rintro e w4 ⟨rfl, hb4⟩
      go_wp2_with fail
      go_ret
      exact ⟨rfl, Below.next_ hb1 hb4⟩
    · have hsc := want_mid hc
      have hC := fun (w : World) (v : Value) (h : Below W.heap.size W w) (k : WV w sv v ps c) => codeW_any (S.below h) v ps c k
      have hPl := fun (w : World) (v : Value) (h : Below W.heap.size W w) (k : WV w sv v ps c) => placesW_any (T.below h) v ps c k (by omega) hc
      have hT := fun (w : World) (v : Value) (h : Below W.heap.size W w) (k : WV w sv v ps c) => text_any (S.below h) (T.below h) (P.below h) v ps (sIdx c) (k.resolve_left fun h => hc h.1).2 (by omega) hp
      rw [hsc] at hT
      have hwc : (1 ≤ wantC c ∧ wantC c ≤ 18) ∨ wantC c = 99 := by
        rw [← hsc]
        unfold sCode
        split <;> omega
      have hR := fun (w : World) (h : Below W.heap.size W w) => refText_any (wantC c) hwc A len cap ps hl (by omega) hp w ((hr.below h).more h.size)
      have hSm := fun (w : World) (A' : Option Addr) (cap' : Nat) (h : Below W.heap.size W w) (k : Reads w w.heap.size 1 A' len (intL ps)) => same_any A' A len cap' cap ps hl (by omega) w k ((hr.below h).more h.size)
      rw [hl] at hPl
      have hwant : (knownB c = true ∧ wantC c = c) ∨ (knownB c = false ∧ wantC c = 99) := by
        unfold wantC
        by_cases hk : knownB c = true
        · exact .inl ⟨hk, if_pos hk⟩
        · exact .inr ⟨by simpa using hk, if_neg hk⟩
      have hc0 : (c == 0) = false := by simpa using hc
      have hvv : ∀ (w : World) (v : Value), WV w sv v ps c → ∃ t u, v = .iface t u := fun w v h => (h.resolve_left fun h => hc h.1).2.iface
      replace hvv := Lib.hid hvv
      clear hc hsc hwc hp hr
      rcases hwant with ⟨h1, h2⟩ | ⟨h1, h2⟩
      all_goals
        rw [h1] at hK1 hK2
        rw [h2] at hC hT hR
        clear h1 h2
        replace hK1 := Lib.hid hK1
        replace hK2 := Lib.hid hK2
        replace hC := Lib.hid hC
        replace hPl := Lib.hid hPl
        replace hT := Lib.hid hT
        replace hR := Lib.hid hR
        replace hSm := Lib.hid hSm
        go_enter Tryd.func7, Tryd.ntmps7
        go_wp2_with fail
        refine (hW.out).mono ?_; rintro e w1 ⟨v, rfl, hv, hb1⟩
        obtain ⟨t, u, rfl⟩ := hvv.out _ _ hv
        replace hv := Lib.hid hv
        go_wp2_with fail
        refine (hK1.out _).mono ?_; rintro e w2 ⟨rfl, rfl⟩
        go_wp2_with fail
        refine (hK2.out _).mono ?_; rintro e w2 ⟨rfl, rfl⟩
        go_wp2_with fail
        refine (hK2.out _).mono ?_; rintro e w2 ⟨rfl, rfl⟩
        go_wp2_with fail
        refine (hC.out _ _ hb1 hv.out).mono ?_; rintro e w2 ⟨rfl, rfl⟩
        go_wp2_with fail
        refine (hPl.out _ _ hb1 hv.out).mono ?_; rintro e w2 ⟨A', cap', rfl, hrd, hb2⟩
        have hc2 := Below.next_ hb1 hb2
        replace hrd := Lib.hid hrd
        go_wp2_with fail
        refine (hSm.out _ _ _ hc2 hrd.out).mono ?_; rintro e w3 ⟨rfl, hb3⟩
        have hc3 := Below.next_ hc2 hb3
        have hv3 := WV.under hb3 (WV.under hb2 hv.out)
        replace hv3 := Lib.hid hv3
        go_wp2_with fail
        refine (hT.out _ _ hc3 hv3.out).mono ?_; rintro e w4 ⟨rfl, hb4⟩
        have hc4 := Below.next_ hc3 hb4
        go_wp2_with fail
        refine (hR.out _ hc4).mono ?_; rintro e w5 ⟨rfl, hb5⟩
        have hc5 := Below.next_ hc4 hb5
        go_wp2_with fail
        refine (AW.out _ hc5).mono ?_; rintro e w6 ⟨rfl, hb6⟩
        go_wp2_with fail
        go_ret
        exact ⟨rfl, Below.next_ hc5 hb6⟩

theorem laid_met (os : Os) : laidMetH Tryd.prog Rows.failTellsRow.laid ((laidWorldP os).forCall (fun _ _ => 0) ⟨#[], #[.int .i64 0, .slice none 0 0], []⟩).memory :=
  laidMetH_of_parts (laidMet_of_run' 8 (by kernel_rfl) (by kernel_rfl)) (by kernel_rfl)
theorem reads (os : Os) {H : Type} (enc : TypeId × Value → H) : ∃ places, DataW.whole enc Tryd.prog ((laidWorldP os).forCall (fun _ _ => 0) ⟨#[], #[.int .i64 0, .slice none 0 0], []⟩).memory Tryd.f7.params.toList Rows.failTellsSpec.vars false (#[.int .i64 0, .slice none 0 0] : Array Value).toList 8 = some ([.lit (.int .i64 0), .nil], [], places) :=
  ⟨[], by kernel_rfl⟩

set_option maxRecDepth 100000 in
theorem lifted (os : Os) (started : os.Started) (H : Type) (enc : TypeId × Value → H) (F : Stop.Interp) :
    ReturnsInHanded {} Tryd.checked os 7 .any ((OpenSpec.ofChange Rows.failTellsSpec).preRow enc Tryd.prog Tryd.f7 Rows.failTellsRow.domain false Rows.failTellsRow.laid) (((OpenSpec.ofChange Rows.failTellsSpec).at F).post enc Tryd.prog Tryd.f7 false true false false) := by
  obtain ⟨places, hx⟩ := reads os enc
  refine door_lift (C := Tryd.checked) own started (by kernel_rfl) Tryd.func7 laidOut
    (rows_of rows) Tryd.underlying4 rfl rfl
    (fun ds hd => by
      obtain ⟨d0, d1, rfl⟩ : ∃ d0 d1, ds = [d0, d1] := by
        match ds, hd with
        | [d0, d1], _ => exact ⟨d0, d1, rfl⟩
      exact ⟨rfl, rfl, rfl⟩)
    (witness_row_atRef (enc := enc) (C := Tryd.checked) false (laidWorldP os) #[.int .i64 0, .slice none 0 0] rfl (by kernel_rfl) (by kernel_rfl) (by kernel_rfl)
      (OpenSpec.preRow_of_cond 8 hx (by kernel_rfl) (fun k hk => by cases hk) (by kernel_rfl) (laid_met os))) ?_
  intro W base args ds p hval0 hA0 hlt hL
  have hval : ∀ (j : Nat) t v, Tryd.f7.params[j]? = some t → args[j]? = some v → Value.okWide Tryd.prog W .any base t v := hval0
  have hA : DataW.TrodAll enc Tryd.prog W 0 (fun _ => true) true Tryd.f7.params.toList args.toList ds p := hA0
  have hL1 : laidMet Tryd.prog ([("math/bits.deBruijn32tab", Rows.laid_math_bits_deBruijn32tab), ("math/bits.deBruijn64tab", Rows.laid_math_bits_deBruijn64tab)] ++ (("internal/strconv.uint64pow10", Rows.laid_internal_strconv_uint64pow10) :: (sentL ++ []))) W ∧ handlesMet Tryd.prog [("errors.errorType", .iface "internal/reflectlite.rtype" (.agg [.ptr (.lit (.string [101, 114, 114, 111, 114]))]))] W := hL
  have P := ptab_of_laid (laidMet_drop hL1.1)
  obtain ⟨sv, S⟩ := sent_of_laid (laidMet_drop (pre := [("internal/strconv.uint64pow10", Rows.laid_internal_strconv_uint64pow10)]) (laidMet_drop hL1.1))
  have T := ety_of_laid hL1.2
  rw [Tryd.params7] at hA hval
  obtain ⟨v0, vs0, d0, ds0, p0, q0, hargs, rfl, rfl, h0, r0⟩ := trodAll_cons hA
  obtain ⟨v1, vs1, d1, ds1, p1, q1, rfl, rfl, rfl, h1, r1⟩ := trodAll_cons r0
  obtain ⟨rfl, rfl, rfl⟩ := trodAll_nil r1
  obtain rfl : args = #[v0, v1] := by cases args; simp_all
  obtain ⟨a0, rfl, rfl, rfl, w0⟩ := open_int Tryd.underlying3 (hval 0 3 v0 rfl rfl) h0
  obtain ⟨A, len, cap, zs, rfl, hlc, hcm, hzl, hr, hwf⟩ := open_ints_list Tryd.underlying47 Tryd.underlying3 (by kernel_rfl) (hval 1 47 v1 rfl rfl) h1 (fun x hx => hlt x (by simp [hx]))
  exact walk a0 A len cap zs hzl (by unfold maxLen at hcm; omega) (fun p hp => bounds_i64 (hwf p hp)) W hr sv S T P

theorem said : Rows.FailTellsSaid :=
  OpenClaim.holds_of_cond 7 Tryd.f7 rfl rfl rfl rfl rfl rfl rfl ⟨rfl, rfl, rfl, rfl, rfl⟩ rfl rfl rfl rfl rfl (by kernel_rfl) Tryd.func7 (by kernel_rfl)
    (of_decide_eq_true (by kernel_rfl)) (by unfold Func.isWrapper; first | (rw [if_pos (by decide +kernel)]; kernel_rfl) | (rw [if_neg (by decide +kernel)]; exact ⟨rfl, rfl⟩))
    (fun os started H enc _ F => by rw [OpenClaim.pre_eq_preRow]; exact lifted os started H enc F)
theorem plain (f : FuncId) (fn : Func) (hf : Tryd.pinned.checked.prog.funcNamed "philtre/philtrelaw01.FailTells" = some f) (hfn : Tryd.pinned.checked.prog.funcs[f]? = some fn) :
    true = Tryd.pinned.checked.prog.looks [] ∧ ∀ (j : Nat) t, fn.params[j]? = some t → Tryd.pinned.checked.prog.wantsStandIn t = false := by
  obtain rfl : f = 7 := Option.some.inj ((show Tryd.prog.funcNamed "philtre/philtrelaw01.FailTells" = some 7 by kernel_rfl).symm.trans hf) |>.symm
  obtain rfl : fn = Tryd.f7 := (Option.some.inj (Tryd.func7.symm.trans hfn)).symm
  refine ⟨by kernel_rfl, fun j t ht => ?_⟩
  have h : (Tryd.f7.params.toList.all fun t => !Tryd.prog.wantsStandIn t) = true := by kernel_rfl
  have := List.all_eq_true.1 h t (by simpa using Array.mem_of_getElem? ht)
  show Tryd.prog.wantsStandIn t = false
  simpa using this

theorem proved : Rows.FailTellsCardSaid :=
  Claim7.holds_tied_plain_at .later [] _ _ _ _ said (fun _ h => by cases h) (by kernel_rfl) (fun _ h => by cases h) failTells_row_tie rfl ⟨rfl, rfl⟩ (by kernel_rfl) rfl plain (by kernel_rfl)
#print axioms proved
end Go.Proofs.YtgnjjlbdiagklaaDoor.failTells
