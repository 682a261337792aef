/-
  The statements of layer 1, walked. No condition.
-/
import Derived.Test.YtgnjjlbdiagklaaDoorFailText2
import Derived.Deep.QuietTactic
import Derived.BigQuiet
namespace Go.Proofs.YtgnjjlbdiagklaaDoor
set_option linter.unusedVariables false
open Go.RowKit Go.Extern.Stop Go.Stop Go.Extern Go.ChangeShapes

/-- The code that a number's error has. -/
def wantC (c : Int) : Int := if knownB c = true then c else 99
theorem want_mid {c : Int} (h : c ≠ 0) : sCode (sIdx c) = wantC c := by
  unfold sCode sIdx wantC knownB
  by_cases h1 : 1 ≤ c ∧ c ≤ 18
  · rw [if_pos h1, if_pos (by omega), if_pos (decide_eq_true (by omega))]
    omega
  · rw [if_neg h1, if_neg (by omega)]
    by_cases h2 : c = 99
    · subst h2; rfl
    · rw [if_neg]
      rw [decide_eq_true_eq]
      omega
theorem want_0 : wantC 0 = 0 := rfl
/-- A code's error at places, as a value. -/
def WV (w : World) (sv : Nat → Addr) (v : Value) (ps : List Int) (c : Int) : Prop := (c = 0 ∧ v = .nilIface) ∨ (c ≠ 0 ∧ ErrIs w sv v ps (sIdx c))
theorem WV.under {w w' : World} {sv : Nat → Addr} {v : Value} {ps : List Int} {c : Int} (hb : Below w.heap.size w w') (h : WV w sv v ps c) : WV w' sv v ps c := h.imp id fun h => ⟨h.1, ErrIs.under hb h.2⟩
theorem codeW_any {w : World} {sv : Nat → Addr} (S : Sent w sv) (v : Value) (ps : List Int) (c : Int) (h : WV w sv v ps c) :
    Calls Tryd.prog 31 #[v] w fun e w' => e = .returned (.int .i64 (wantC c)) ∧ w = w' := by
  rcases h with ⟨rfl, rfl⟩ | ⟨h0, h⟩
  · exact code_nil w
  · rw [← want_mid h0]
    exact code_any S v ps _ h
def WRel0 (len : Nat) (w : World) (v i : Value) (wr : World) : Prop := ∃ k : Nat, k ≤ len ∧ i = .int .i64 ((k : Int) - 1) ∧ v = .nilIface ∧ w = wr
def WRel1 (len : Nat) (w : World) (sv : Nat → Addr) (ps : List Int) (c : Int) (v i : Value) (wr : World) : Prop := ∃ k : Nat, k ≤ len ∧ i = .int .i64 ((k : Int) - 1) ∧ ErrIs wr sv v (ps.drop k) (sIdx c) ∧ Below w.heap.size w wr
set_option maxHeartbeats 1000000 in
theorem wrapped_any {w : World} {sv : Nat → Addr} (S : Sent w sv) (c : Int) (A : Option Addr) (len cap : Nat) (ps : List Int) (hl : ps.length = len) (h1000 : len ≤ 1000) (hr : Reads w w.heap.size 1 A len (intL ps)) :
    Calls Tryd.prog 28 #[.int .i64 c, .slice A len cap] w fun e w' => ∃ v, e = .returned v ∧ WV w' sv v ps c ∧ Below w.heap.size w w' := by
  have hN := new_any S c
  replace hN := Lib.hid hN
  replace hl := Lib.hid hl
  replace S := Lib.hid S
  by_cases hc : c = 0
  · subst hc
    have e : newV sv 0 = .nilIface := rfl
    rw [e] at hN
    clear e
    go_enter Tryd.func28, Tryd.ntmps28
    go_wp2_with fail
    refine (hN.out).mono ?_; rintro e w1 ⟨rfl, rfl⟩
    go_wp2_with fail
    go_loopw [5, 6] (fun v i wr => WRel0 len w v i wr) (fun _ i _ => (intOf i + 1).toNat)
    case atStart => exact ⟨len, Nat.le_refl _, rfl, rfl, rfl⟩
    case round =>
      obtain ⟨k, hk, rfl, rfl, rfl⟩ := hrel
      rcases k with _ | k
      · go_wp2_with fail
        go_ret
        exact ⟨_, rfl, .inl ⟨rfl, rfl⟩, Below.refl _ _⟩
      · have e1 : (((k + 1 : Nat) : Int) - 1) = k := by omega
        rw [e1]
        obtain ⟨ad, u, rfl, _, hx, hcell⟩ := hr.at_ (k := k) (by omega)
        have hu : ∃ p, u = .int .i64 p := by
          have : (intL ps)[k]? = some (.int .i64 (ps[k]'(by rw [hl.out]; omega))) := by simp [intL]
          exact ⟨_, Option.some.inj (hx.symm.trans this)⟩
        obtain ⟨p, rfl⟩ := hu
        clear hx
        go_wp2_with fail
        refine (at_nil _ _).mono ?_; rintro e w2 ⟨rfl, rfl⟩
        go_wp2_with fail
        go_roundw
        case rel => exact ⟨k, by omega, by go_num, rfl, rfl⟩
        case measure => (first | (simp [intOf]; done) | (simp [intOf]; omega))
  · have e : newV sv c = .iface 167 (.pointer (some (sv (sIdx c)))) := by unfold newV; rw [if_neg hc]
    rw [e] at hN
    clear e
    replace hc := Lib.hid hc
    go_enter Tryd.func28, Tryd.ntmps28
    go_wp2_with fail
    refine (hN.out).mono ?_; rintro e w1 ⟨rfl, rfl⟩
    go_wp2_with fail
    go_loopw [5, 6] (fun v i wr => WRel1 len w sv ps c v i wr) (fun _ i _ => (intOf i + 1).toNat)
    case atStart => exact ⟨len, Nat.le_refl _, rfl, by rw [List.drop_of_length_le (by rw [hl.out]; exact Nat.le_refl _)]; exact ErrIs.leaf _ (sIdx_lt c), Below.refl _ _⟩
    case round =>
      obtain ⟨k, hk, rfl, hE, hb⟩ := hrel
      rcases k with _ | k
      · replace hE := Lib.hid hE
        go_wp2_with fail
        go_ret
        exact ⟨_, rfl, .inr ⟨hc.out, by simpa using hE.out⟩, hb⟩
      · have e1 : (((k + 1 : Nat) : Int) - 1) = k := by omega
        rw [e1]
        have hk2 : k < ps.length := by rw [hl.out]; omega
        obtain ⟨ad, u, rfl, _, hx, hcell⟩ := (hr.below hb).at_ (k := k) (by omega)
        have hu : u = .int .i64 ps[k] := by
          have : (intL ps)[k]? = some (.int .i64 ps[k]) := by simp [intL, hk2]
          exact Option.some.inj (hx.symm.trans this)
        subst hu
        clear hx
        have hd : ps.drop k = ps[k] :: ps.drop (k + 1) := List.drop_eq_getElem_cons hk2
        replace hd := Lib.hid hd
        generalize ps[k] = p at *
        replace hE := Lib.hid hE
        go_wp2_with fail
        refine (at_any p _ _ _ hE.out).mono ?_; rintro e w2 ⟨v, rfl, hv, hb2⟩
        replace hv := Lib.hid hv
        go_wp2_with fail
        go_roundw
        case rel => exact ⟨k, by omega, by go_num, by rw [hd.out]; exact hv.out, Below.next_ hb hb2⟩
        case measure => (first | (simp [intOf]; done) | (simp [intOf]; omega))
theorem same_any (A B : Option Addr) (len cap cap' : Nat) (ps : List Int) (hl : ps.length = len) (h1000 : len ≤ 1000) (w : World) (ha : Reads w w.heap.size 1 A len (intL ps)) (hb : Reads w w.heap.size 1 B len (intL ps)) :
    Calls Tryd.prog 34 #[.slice A len cap, .slice B len cap'] w fun e w' => e = .returned (.bool true) ∧ Below w.heap.size w w' := by
  replace hl := Lib.hid hl
  go_enter Tryd.func34, Tryd.ntmps34
  go_wp2_with fail
  go_loopw [5] (fun i wr => ∃ k : Nat, k ≤ len ∧ i = .int .i64 k ∧ Below w.heap.size w wr) (fun i _ => len - (intOf i).toNat)
  case atStart => exact ⟨0, Nat.zero_le _, rfl, Below.refl _ _⟩
  case round =>
    obtain ⟨k, hk, rfl, hw⟩ := hrel
    by_cases hlt : k < len
    · have hk2 : k < ps.length := by rw [hl.out]; omega
      obtain ⟨ad, u, rfl, _, hx, hcell⟩ := (ha.below hw).at_ hlt
      obtain ⟨bd, u', rfl, _, hx', hcell'⟩ := (hb.below hw).at_ hlt
      have hu : u = .int .i64 ps[k] := by
        have : (intL ps)[k]? = some (.int .i64 ps[k]) := by simp [intL, hk2]
        exact Option.some.inj (hx.symm.trans this)
      obtain rfl : u = u' := Option.some.inj (hx.symm.trans hx')
      subst hu
      clear hx hx'
      generalize ps[k] = p at *
      have i1 : (0 : Int) ≤ k := by omega
      have i2 : (k : Int) < len := by omega
      go_wp2_with fail
      go_quiet (fail)
      go_wp2_with fail
      go_roundw
      case rel => exact ⟨k + 1, by omega, by go_num, by (repeat first | exact Below.refl _ _ | assumption | refine Below.drew ?_ | refine below_drewN ?_ _ | refine Below.more_ ?_ _ | refine Below.setCell ?_ (by first | exact Nat.le_refl _ | (simp; done) | (simp; omega)) _)⟩
      case measure => simp [intOf]; omega
    · go_wp2_with fail
      go_ret
      exact ⟨rfl, hw⟩
theorem text_ex : textL 1 [3, -4] = [97, 116, 32, 51, 58, 32, 97, 116, 32, 45, 52, 58, 32, 102, 111, 114, 109] := by
  have a1 : Lib.itoa 3 = [51] := by unfold Lib.itoa; rw [if_neg (by decide), show (3 : Int).toNat = 3 from rfl, Lib.decDigits_one (by decide)]; rfl
  have a2 : Lib.itoa (-4) = [45, 52] := by unfold Lib.itoa; rw [if_pos (by decide), show (-4 : Int).natAbs = 4 from rfl, Lib.decDigits_one (by decide)]; rfl
  simp only [textL, plcs, plc, a1, a2, List.map_cons, List.map_nil]
  rfl
theorem bool_beq_self (b : Bool) : (b == b) = true := by cases b <;> rfl
theorem placesW_any {w : World} {sv : Nat → Addr} (T : ETy w) (v : Value) (ps : List Int) (c : Int) (h : WV w sv v ps c) (hl : ps.length ≤ 1000000) (hc : c ≠ 0) :
    Calls Tryd.prog 32 #[v] w fun e w' => ∃ A cap, e = .returned (.slice A ps.length cap) ∧ Reads w' w'.heap.size 1 A ps.length (intL ps) ∧ Below w.heap.size w w' := by
  refine (places_any T v ps _ (h.resolve_left fun h => hc h.1).2 hl).mono ?_
  rintro e w1 ⟨r, rfl, hown, hb⟩
  rcases hown.2 with ⟨rfl, h0⟩ | ⟨g, cap, cur, rfl, _⟩
  · refine ⟨none, 0, by rw [h0], ?_, hb⟩
    have e : intL ps = [] := by
      have : ps = [] := List.eq_nil_of_length_eq_zero h0
      rw [this]; rfl
    rw [e, h0]
    exact Reads.none_
  · exact ⟨_, _, rfl, Reads.of_own hown, hb⟩
theorem places_nil (w : World) : Calls Tryd.prog 32 #[.nilIface] w fun e w' => e = .returned (.slice none 0 0) ∧ w = w' := by
  go_enter Tryd.func32, Tryd.ntmps32
  go_wp2_with fail
  refine wp_loop_rounds 1 ?_
  rw [rounds_succ]
  go_wp2_with fail
  go_ret
  exact ⟨rfl, rfl⟩
set_option maxRecDepth 100000 in
set_option maxHeartbeats 1000000 in
theorem awake01 {w : World} {sv : Nat → Addr} (S : Sent w sv) (T : ETy w) (P : PTab w) :
    Calls Tryd.prog 27 #[] w fun e w' => e = .returned (.bool true) ∧ Below w.heap.size w w' := by
  have hN := new_any S 1
  have e : newV sv 1 = .iface 167 (.pointer (some (sv 0))) := rfl
  rw [e] at hN
  clear e
  have X := fun (W : World) (h : Below w.heap.size w W) (v : Value) (hv : ErrIs W sv v [3, -4] 0) => text_any (S.below h) (T.below h) (P.below h) v [3, -4] 0 hv (by decide) (by decide)
  have e : strL (textL (sCode 0) [3, -4]) = .string ⟨#[97, 116, 32, 51, 58, 32, 97, 116, 32, 45, 52, 58, 32, 102, 111, 114, 109]⟩ := by
    have : sCode 0 = 1 := rfl
    rw [this, text_ex]; rfl
  rw [e] at X
  clear e
  have Z := new_any S 0
  have K := known_any 99
  have e : knownB 99 = true := rfl
  rw [e] at K
  clear e Z
  replace K := Lib.hid K
  replace X := Lib.hid X
  replace hN := Lib.hid hN
  replace S := Lib.hid S
  replace T := Lib.hid T
  go_enter Tryd.func27, Tryd.ntmps27
  go_wp2_with fail
  refine (hN.out).mono ?_; rintro e w1 ⟨rfl, rfl⟩
  go_wp2_with fail
  refine (at_any (-4) _ [] 0 (ErrIs.leaf 0 (by decide))).mono ?_; rintro e w1 ⟨v1, rfl, hv1, hb1⟩
  replace hv1 := Lib.hid hv1
  go_wp2_with fail
  refine (at_any 3 _ _ 0 hv1.out).mono ?_; rintro e w2 ⟨v2, rfl, hv2, hb2⟩
  replace hv2 := Lib.hid hv2
  have hc2 := Below.next_ hb1 hb2
  go_wp2_with fail
  refine (X.out _ hc2 v2 hv2.out).mono ?_; rintro e w3 ⟨rfl, hb3⟩
  have hc3 := Below.next_ hc2 hb3
  go_wp2_with fail
  refine (code_any (S.out.below hc3) v2 _ 0 (ErrIs.under hb3 hv2.out)).mono ?_; rintro e w4 ⟨rfl, rfl⟩
  go_wp2_with fail
  refine (placesW_any (sv := sv) (c := 1) (T.out.below hc3) v2 [3, -4] (.inr ⟨by decide, ErrIs.under hb3 hv2.out⟩) (by decide) (by decide)).mono ?_; rintro e w4 ⟨A, cap, rfl, _, hb4⟩
  have hc4 := Below.next_ hc3 hb4
  go_wp2_with fail
  refine (new_any (S.out.below hc4) 0).mono ?_; rintro e w5 ⟨rfl, rfl⟩
  rw [show newV sv 0 = .nilIface from rfl]
  go_wp2_with fail
  refine (at_nil _ 1).mono ?_; rintro e w5 ⟨rfl, rfl⟩
  go_wp2_with fail
  refine (K.out _).mono ?_; rintro e w5 ⟨rfl, rfl⟩
  go_wp2_with fail
  go_ret
  exact ⟨rfl, hc4⟩
end Go.Proofs.YtgnjjlbdiagklaaDoor
