/-
  The laws QuoteTells and QuoteBack (layer 4). No condition.
-/
import Derived.Test.YtpmnppjiipbonaaDoorAwake4
namespace Go.Proofs.YtpmnppjiipbonaaDoor
set_option linter.unusedVariables false
open Go.RowKit Go.Extern.Stop Go.Stop Go.Extern Go.ChangeShapes

theorem ba_of {s : ByteArray} : bs s.data.toList = s := ba_ext (list_bs _)
theorem qp_scode (l : List UInt8) : (((qparse l).2.1 : Nat) : Int) = 0 ∨ sCode (sIdx ((qparse l).2.1 : Nat)) = ((qparse l).2.1 : Nat) := by
  rcases qparse_code l with h | ⟨h | h, _⟩
  · left; rw [h.1]; rfl
  · right; rw [h]; rfl
  · right; rw [h]; rfl
set_option maxHeartbeats 1000000 in
set_option maxRecDepth 100000 in
theorem quoteTells_any {w : World} {sv : Nat → Addr} (S : Sent w sv) (T : ETy w) (s u : ByteArray) : Calls Tryd.prog 3 #[.string s, .string u] w fun e w' => e = .returned (.bool true) ∧ Below w.heap.size w w' := by
  have hA := fun W (h : Below w.heap.size w W) => awake04_any (S.below h) (T.below h)
  by_cases hs : 500 < s.size
  · replace hA := Lib.hid hA
    clear S T
    go_enter Tryd.func3, Tryd.ntmps3
    go_wp2_with fail
    refine (hA.out _ (Below.refl _ _)).mono ?_; rintro e w1 ⟨rfl, hb⟩
    go_wp2_with fail
    go_ret
    exact ⟨rfl, hb⟩
  · by_cases hu : 500 < u.size
    · replace hA := Lib.hid hA
      clear S T
      go_enter Tryd.func3, Tryd.ntmps3
      go_wp2_with fail
      refine (hA.out _ (Below.refl _ _)).mono ?_; rintro e w1 ⟨rfl, hb⟩
      go_wp2_with fail
      go_ret
      exact ⟨rfl, hb⟩
    · have P1 := parseQ_any S u (by omega)
      have P2 := fun W => refParseQ_any u (by omega) W
      have P3 := fun W => printQ_any s (by omega) W
      have P4 := fun W => refPrintQ_any s (by omega) W
      have hc := qp_scode u.data.toList
      have hSS := fun W (h : Below w.heap.size w W) => S.below h
      have hTT := fun W (h : Below w.heap.size w W) => T.below h
      obtain ⟨q, hq0⟩ : ∃ q, strL (qprint s.data.toList) = .string q := ⟨_, rfl⟩
      rw [hq0] at P3 P4
      clear hq0
      have hq : ∃ b, strL (qparse u.data.toList).1 = .string b := ⟨_, rfl⟩
      obtain ⟨b, hb0⟩ := hq
      rw [hb0] at P1 P2
      generalize (((qparse u.data.toList).2.1 : Nat) : Int) = cd at *
      generalize (((qparse u.data.toList).2.2 : Nat) : Int) = pl at *
      clear hb0
      replace hA := Lib.hid hA
      replace P1 := Lib.hid P1
      replace P2 := Lib.hid P2
      replace P3 := Lib.hid P3
      replace P4 := Lib.hid P4
      replace hc := Lib.hid hc
      replace hSS := Lib.hid hSS
      replace hTT := Lib.hid hTT
      clear S T
      go_enter Tryd.func3, Tryd.ntmps3
      go_wp2_with fail
      refine (P1.out).mono ?_; rintro e w1 ⟨v, rfl, hv, hb1⟩
      replace hv := Lib.hid hv
      go_wp2_with fail
      refine (P2.out _).mono ?_; rintro e w2 ⟨rfl, hb2⟩
      have hb02 := Below.next_ hb1 hb2
      go_wp2_with fail
      refine (P3.out _).mono ?_; rintro e w3 ⟨rfl, hb3⟩
      have hb03 := Below.next_ hb02 hb3
      go_wp2_with fail
      refine (P4.out _).mono ?_; rintro e w4 ⟨rfl, hb4⟩
      have hb04 := Below.next_ hb03 hb4
      have hv4 : TkErr w4 sv v pl cd := hv.out.imp id fun ⟨a, b⟩ => ⟨a, ErrIs.under hb4 (ErrIs.under hb3 (ErrIs.under hb2 b))⟩
      have hW := wrongLaw_any (hSS.out _ hb04) (hTT.out _ hb04) v pl cd hv4 hc.out
      replace hW := Lib.hid hW
      clear hv hv4
      go_wp2_with fail
      refine (hW.out).mono ?_; rintro e w5 ⟨rfl, hb5⟩
      have hb05 := Below.next_ hb04 hb5
      go_wp2_with fail
      refine (hA.out _ hb05).mono ?_; rintro e w6 ⟨rfl, hb6⟩
      go_wp2_with fail
      go_ret
      exact ⟨rfl, Below.next_ hb05 hb6⟩
set_option maxHeartbeats 1000000 in
set_option maxRecDepth 100000 in
theorem quoteBack_any {w : World} {sv : Nat → Addr} (S : Sent w sv) (T : ETy w) (s u : ByteArray) : Calls Tryd.prog 4 #[.string s, .string u] w fun e w' => e = .returned (.bool true) ∧ Below w.heap.size w w' := by
  have hA := fun W (h : Below w.heap.size w W) => awake04_any (S.below h) (T.below h)
  by_cases hs : 500 < s.size
  · replace hA := Lib.hid hA
    clear S T
    go_enter Tryd.func4, Tryd.ntmps4
    go_wp2_with fail
    refine (hA.out _ (Below.refl _ _)).mono ?_; rintro e w1 ⟨rfl, hb⟩
    go_wp2_with fail
    go_ret
    exact ⟨rfl, hb⟩
  · by_cases hu : 500 < u.size
    · replace hA := Lib.hid hA
      clear S T
      go_enter Tryd.func4, Tryd.ntmps4
      go_wp2_with fail
      refine (hA.out _ (Below.refl _ _)).mono ?_; rintro e w1 ⟨rfl, hb⟩
      go_wp2_with fail
      go_ret
      exact ⟨rfl, hb⟩
    · have hll := size_list_ s
      have hql := qprint_len s.data.toList
      have hqs := qprint_seen s.data.toList
      have hpb : (bs (qprint s.data.toList)).data.toList = qprint s.data.toList := list_bs _
      have hpz : (bs (qprint s.data.toList)).size = (qprint s.data.toList).length := size_bs _
      have hp0 : 0 < (bs (qprint s.data.toList)).size := by rw [hpz]; exact List.length_pos_iff.2 (qprint_ne _)
      have P1 := fun W => printQ_any s (by omega) W
      have P2 := fun W (h : Below w.heap.size w W) => parseQ_any (S.below h) (bs (qprint s.data.toList)) (by omega)
      rw [hpb, qparse_qprint] at P2
      rw [show strL (qprint s.data.toList) = .string (bs (qprint s.data.toList)) from rfl] at P1
      rw [show strL (s.data.toList, 0, 0).1 = .string s from congrArg Value.string ba_of] at P2
      have hbyte : ∀ k, k < (bs (qprint s.data.toList)).size → ∃ c : Nat, 32 < c ∧ c < 127 ∧ ∀ h : k < (bs (qprint s.data.toList)).size, ((bs (qprint s.data.toList))[k]'h).toNat = c := fun k hk => by
        have h1 := byte_lf hk
        rw [hpb] at h1
        have hk2 : k < (qprint s.data.toList).length := by omega
        obtain ⟨h2, h3⟩ := hqs _ (List.getElem_mem hk2)
        exact ⟨lf (qprint s.data.toList) k, by rw [lf_at hk2]; exact h2, by rw [lf_at hk2]; exact h3, h1⟩
      have hpm : (bs (qprint s.data.toList)).size ≤ 2000 := by omega
      have hpe := txt_ne_empty hp0
      have hpeb : ((bs (qprint s.data.toList)).toList == []) = false := beq_eq_false_iff_ne.2 hpe
      have P3 := fun W (h : Below w.heap.size w W) => parseQ_any (S.below h) u (by omega)
      clear hpb hpz hp0 hqs hql hll
      generalize bs (qprint s.data.toList) = p at *
      replace hA := Lib.hid hA
      replace P1 := Lib.hid P1
      replace P2 := Lib.hid P2
      replace P3 := Lib.hid P3
      replace hbyte := Lib.hid hbyte
      clear S T
      go_enter Tryd.func4, Tryd.ntmps4
      go_wp2_with fail
      refine (P1.out _).mono ?_; rintro e w1 ⟨rfl, hb1⟩
      go_wp2_with fail
      refine (P2.out _ hb1).mono ?_; rintro e w2 ⟨v, rfl, hv, hb2⟩
      obtain rfl := tk_nil hv rfl
      have hb02 := Below.next_ hb1 hb2
      clear hv hb2 hb1
      go_wp2_with fail
      clear hpe hpeb
      go_loopw [8] (fun i wr => ∃ k : Nat, i = .int .i64 k ∧ k ≤ p.size ∧ Below w.heap.size w wr) (fun i _ => p.size + 1 - (intOf i).toNat)
      case atStart => exact ⟨0, rfl, Nat.zero_le _, hb02⟩
      case round =>
        obtain ⟨k, rfl, hk, hb⟩ := hrel
        by_cases hlt : k < p.size
        · obtain ⟨c, hc1, hc2, hx⟩ := hbyte.out k hlt
          have d1 : decide ((c : Int) ≤ 32) = false := decide_eq_false (by omega)
          have d2 : decide ((c : Int) ≥ 127) = false := decide_eq_false (by omega)
          have d3 : decide (127 ≤ (c : Int)) = false := decide_eq_false (by omega)
          go_wp2_with fail
          go_roundw
          case rel => exact ⟨k + 1, by go_num, by omega, hb⟩
          case measure => simp [intOf]; omega
        · have hP3 := P3.out _ hb
          rcases qparse_code u.data.toList with ⟨h1, h2⟩ | ⟨h1, h2, h3⟩
          · obtain ⟨U, hU⟩ : ∃ U, qparse u.data.toList = (U, 0, 0) := by
              refine ⟨(qparse u.data.toList).1, ?_⟩
              rw [← h1]
              conv => lhs; rw [show qparse u.data.toList = ((qparse u.data.toList).1, (qparse u.data.toList).2.1, (qparse u.data.toList).2.2) from rfl]
              rw [h1, h2]
            have hbk := qprint_qparse hU
            rw [hU] at hP3
            have hUl : (bs U).size ≤ 100000 := by
              have e1 : ∀ l : List UInt8, l.length ≤ (l.flatMap qone).length := fun l => by
                induction l with
                | nil => simp
                | cons c r ih =>
                  have := List.length_pos_iff.2 (qone_ne c)
                  simp only [List.flatMap_cons, List.length_append, List.length_cons]; omega
              have e2 : U.length ≤ (qprint U).length := by
                unfold qprint
                split
                · rename_i h; subst h; simp
                · exact e1 U
              rw [hbk, size_list_] at e2
              rw [size_bs]; omega
            have P4 := fun W => printQ_any (bs U) hUl W
            rw [list_bs, hbk, show strL u.data.toList = .string u from congrArg Value.string ba_of] at P4
            rw [show strL (U, 0, 0).1 = .string (bs U) from rfl] at hP3
            generalize bs U = ub at *
            replace hP3 := Lib.hid hP3
            replace P4 := Lib.hid P4
            clear h1 h2 hU hbk
            go_wp2_with fail
            refine (hP3.out).mono ?_; rintro e w3 ⟨v, rfl, hv, hb3⟩
            obtain rfl := tk_nil hv rfl
            have hb03 := Below.next_ hb hb3
            clear hv hb3
            go_wp2_with fail
            refine (P4.out _).mono ?_; rintro e w4 ⟨rfl, hb4⟩
            have hb04 := Below.next_ hb03 hb4
            go_wp2_with fail
            refine (hA.out _ hb04).mono ?_; rintro e w5 ⟨rfl, hb5⟩
            go_wp2_with fail
            go_ret
            exact ⟨rfl, Below.next_ hb04 hb5⟩
          · have hne : (((qparse u.data.toList).2.1 : Nat) : Int) ≠ 0 := by rcases h1 with h | h <;> rw [h] <;> decide
            rw [h2, show strL [] = .string ⟨#[]⟩ from rfl] at hP3
            generalize (((qparse u.data.toList).2.1 : Nat) : Int) = cd at *
            generalize (((qparse u.data.toList).2.2 : Nat) : Int) = pl at *
            replace hP3 := Lib.hid hP3
            replace hne := Lib.hid hne
            clear h1 h2 h3
            go_wp2_with fail
            refine (hP3.out).mono ?_; rintro e w3 ⟨v, rfl, hv, hb3⟩
            obtain ⟨t, x, rfl⟩ := (hv.resolve_left fun h => hne.out h.1).2.iface
            have hb03 := Below.next_ hb hb3
            clear hv hb3
            go_wp2_with fail
            refine (hA.out _ hb03).mono ?_; rintro e w5 ⟨rfl, hb5⟩
            go_wp2_with fail
            go_ret
            exact ⟨rfl, Below.next_ hb03 hb5⟩
end Go.Proofs.YtpmnppjiipbonaaDoor
