/-
  Package quote: Parse; the document's. No condition.
-/
import Derived.Test.YtpmnppjiipbonaaDoorQuote
import Derived.Test.YtpmnppjiipbonaaDoorKits
namespace Go.Proofs.YtpmnppjiipbonaaDoor
set_option linter.unusedVariables false
open Go.RowKit Go.Extern.Stop Go.Stop Go.Extern Go.ChangeShapes

theorem quoteWrong_any {w : World} {sv : Nat → Addr} (S : Sent w sv) (p c : Int) (hc : c ≠ 0) :
    Calls Tryd.prog 32 #[.int .i64 p, .int .i64 c] w fun e w' => ∃ v', e = .returned v' ∧ ErrIs w' sv v' [p] (sIdx c) ∧ Below w.heap.size w w' := by
  have hn : newV sv c = .iface 187 (.pointer (some (sv (sIdx c)))) := by unfold newV; rw [if_neg hc]
  have S := Lib.hid S
  clear hc
  go_enter Tryd.func32, Tryd.ntmps32
  go_wp2_with fail
  refine (new_any S.out _).mono ?_; rintro e w1 ⟨rfl, rfl⟩
  rw [hn]
  go_wp2_with fail
  refine (at_any p _ [] (sIdx c) (ErrIs.leaf _ (sIdx_lt c))).mono ?_; rintro e w1 ⟨v', rfl, h, hb⟩
  go_wp2_with fail
  go_ret
  exact ⟨v', rfl, h, hb⟩
theorem conv_drewN (w : World) (n : Nat) (b : UInt8) : (convert 68 9 (.slice (some ⟨w.heap.size, 0, none⟩) 1 1)).run Tryd.prog ((w.drewN n).alloc (.cells #[.int .u8 (u8i b)] 5)) = .ok (.string (bs [b])) ((w.drewN n).alloc (.cells #[.int .u8 (u8i b)] 5)) := conv_one (w.drewN n) b
theorem byte_lf {s : ByteArray} {k : Nat} (h : k < s.size) : ∀ h : k < s.size, (s[k]'h).toNat = lf s.data.toList k := fun _ => at_lf rfl h
theorem signByte {c : Nat} (h : c < 256) (w : World) : Calls Tryd.prog 34 #[.string ⟨#[48, 49, 50, 51, 52, 53, 54, 55, 56, 57, 97, 98, 99, 100, 101, 102]⟩, .int .u8 c] w fun e w' => e = .returned (.int .i64 (qvi c)) ∧ w = w' := by
  refine (Tryd.strings_IndexByte _ c w).mono ?_
  rintro e w' ⟨rfl, rfl⟩
  rw [← signIndex h]
  exact ⟨rfl, rfl⟩
/-- The closure that takes a digit: what it answers at a place. -/
theorem digit_out {w : World} {sv : Nat → Addr} (S : Sent w sv) (b : Nat) (s : ByteArray) (i : Nat) (hb : w.cell? ⟨b, 0, none⟩ = some (.string s)) (hi : s.size ≤ i) :
    Calls Tryd.prog 33 #[.int .i64 i, .pointer (some ⟨b, 0, none⟩)] w fun e w' => ∃ v, e = .returned (.tuple #[.int .u8 0, v]) ∧ ErrIs w' sv v [(s.size : Int)] (sIdx 2) ∧ Below w.heap.size w w' := by
  have hW := Lib.hid (quoteWrong_any S (s.size : Int) 2 (by decide))
  clear S
  go_enter Tryd.func33, Tryd.ntmps33
  go_wp2_with fail
  refine (hW.out).mono ?_; rintro e w1 ⟨v, rfl, hv, hb1⟩
  go_wp2_with fail
  exact bodyPost_ret (results_tmp2 Tryd.results33 _ _ _) rfl ⟨v, rfl, hv, hb1⟩
theorem digit_bad {w : World} {sv : Nat → Addr} (S : Sent w sv) (b : Nat) (s : ByteArray) (i : Nat) (hb : w.cell? ⟨b, 0, none⟩ = some (.string s)) (hi : i < s.size) (hq : qval (lf s.data.toList i) = none) :
    Calls Tryd.prog 33 #[.int .i64 i, .pointer (some ⟨b, 0, none⟩)] w fun e w' => ∃ v, e = .returned (.tuple #[.int .u8 0, v]) ∧ ErrIs w' sv v [(i : Int)] (sIdx 1) ∧ Below w.heap.size w w' := by
  have hW := Lib.hid (quoteWrong_any S (i : Int) 1 (by decide))
  have hI := Lib.hid (signByte (lf_lt s.data.toList i))
  have hv : qvi (lf s.data.toList i) = -1 := by rw [qvi, hq]
  have hsb := byte_lf hi
  replace hq := Lib.hid hq
  rw [hv] at hI
  replace hv := Lib.hid hv
  generalize lf s.data.toList i = c at *
  clear S
  go_enter Tryd.func33, Tryd.ntmps33
  go_wp2_with fail
  refine (hI.out _).mono ?_; rintro e w1 ⟨rfl, rfl⟩
  go_wp2_with fail
  refine (hW.out).mono ?_; rintro e w1 ⟨v, rfl, hv, hb1⟩
  go_wp2_with fail
  exact bodyPost_ret (results_tmp2 Tryd.results33 _ _ _) rfl ⟨v, rfl, hv, hb1⟩
theorem digit_ok {w : World} (b : Nat) (s : ByteArray) (i x : Nat) (hb : w.cell? ⟨b, 0, none⟩ = some (.string s)) (hi : i < s.size) (hq : qval (lf s.data.toList i) = some x) :
    Calls Tryd.prog 33 #[.int .i64 i, .pointer (some ⟨b, 0, none⟩)] w fun e w' => e = .returned (.tuple #[.int .u8 x, .nilIface]) ∧ w = w' := by
  have hI := Lib.hid (signByte (lf_lt s.data.toList i))
  have hv : qvi (lf s.data.toList i) = x := by rw [qvi, hq]
  have hx := (qdig_qval (lf_lt _ _) hq).1
  have hsb := byte_lf hi
  replace hq := Lib.hid hq
  rw [hv] at hI
  replace hv := Lib.hid hv
  generalize lf s.data.toList i = c at *
  go_enter Tryd.func33, Tryd.ntmps33
  go_wp2_with fail
  refine (hI.out _).mono ?_; rintro e w1 ⟨rfl, rfl⟩
  go_wp2_with fail
  exact bodyPost_ret (results_tmp2 Tryd.results33 _ _ _) rfl ⟨rfl, rfl⟩
set_option maxRecDepth 100000 in
set_option maxHeartbeats 2000000 in
theorem refParseQ_any (s : ByteArray) (hs : s.size ≤ 100000) (w : World) :
    Calls Tryd.prog 11 #[.string s] w fun e w' => e = .returned (.tuple #[strL (qparse s.data.toList).1, .int .i64 (qparse s.data.toList).2.1, .int .i64 (qparse s.data.toList).2.2]) ∧ Below w.heap.size w w' := by
  by_cases h0 : s.size = 0
  · obtain rfl : s = ⟨#[]⟩ := by
      apply ba_ext
      rw [List.eq_nil_of_length_eq_zero (show s.data.toList.length = 0 by rw [size_list_]; exact h0)]
    clear h0 hs
    go_enter Tryd.func11, Tryd.ntmps11
    go_wp2_with fail
    exact bodyPost_ret (results_tmp3 Tryd.results11 _ _ _) rfl ⟨rfl, Below.refl _ _⟩
  · by_cases h1 : s.data.toList = [45]
    · obtain rfl : s = ⟨#[45]⟩ := ba_ext h1
      clear h0 h1 hs
      go_enter Tryd.func11, Tryd.ntmps11
      go_wp2_with fail
      exact bodyPost_ret (results_tmp3 Tryd.results11 _ _ _) rfl ⟨rfl, Below.refl _ _⟩
    · have hne := txt_ne_empty (s := s) (by omega)
      have hnb : (s.toList == []) = false := beq_eq_false_iff_ne.2 hne
      have hn1 : ¬ s.toList = [45] := by rw [ByteArray.toList_eq]; exact h1
      have hn1b : (s.toList == [45]) = false := beq_eq_false_iff_ne.2 hn1
      have hq : qparse s.data.toList = qpF s.data.toList s.data.toList.length 0 [] := by rw [qparse, if_neg (list_ne (s := s) (by omega)), if_neg h1]
      have hlen := size_list_ s
      replace h1 := Lib.hid h1
      generalize qparse s.data.toList = r at *
      obtain ⟨l, hl⟩ : ∃ l, l = s.data.toList := ⟨_, rfl⟩
      rw [← hl] at hq hlen
      replace hl := Lib.hid hl
      replace hq := Lib.hid hq
      have hlen' := Lib.hid hlen
      replace hlen := Lib.hid hlen
      have hD := fun c w => refDigit_any c w
      replace hD := Lib.hid hD
      go_enter Tryd.func11, Tryd.ntmps11
      go_wp2_with fail
      clear hne hnb hn1 hn1b
      go_loopw [5, 6] (fun o i wr => ∃ (n k : Nat) (acc : List UInt8), i = .int .i64 k ∧ k ≤ s.size ∧ s.size ≤ k + n ∧ acc.length ≤ k ∧ o = .string (bs acc) ∧ qpF l n k acc = r ∧ Below w.heap.size w wr) (fun _ i _ => s.size + 1 - (intOf i).toNat)
      case atStart => exact ⟨l.length, 0, [], rfl, by omega, by have := hlen.out; omega, by simp, rfl, hq.out.symm, Below.refl _ _⟩
      case round =>
        obtain ⟨n, k, acc, rfl, hk, hkn, hal, rfl, hr, hb⟩ := hrel
        by_cases hend : k = s.size
        · have hn0 := Lib.hid ((qpF_end (n := n) (acc := acc) (show l.length ≤ k by have := hlen.out; omega)).symm.trans hr)
          replace hr := Lib.hid hr
          subst hend
          go_wp2_with fail
          exact bodyPost_ret (results_tmp3 Tryd.results11 _ _ _) rfl ⟨by rw [← hn0.out]; rfl, by (repeat first | exact Below.refl _ _ | assumption | refine Below.drew ?_ | refine below_drewN ?_ _ | refine Below.more_ ?_ _ | refine Below.setCell ?_ (by first | exact Nat.le_refl _ | (simp; done) | (simp; omega)) _)⟩
        · have hlt : k < s.size := by omega
          obtain ⟨n, rfl⟩ : ∃ m, n = m + 1 := ⟨n - 1, by omega⟩
          have hll : k < l.length := by have := hlen.out; omega
          have b0 := byte_lf hlt
          rw [← hl.out] at b0
          have c256 := lf_lt l k
          have pm := Lib.hid (fun w => refPlain_any (lf l k) w)
          cases hp : qplain (lf l k)
          · rw [hp] at pm
            by_cases h37 : lf l k = 37
            · rw [h37] at b0 pm
              replace hp := Lib.hid hp
              clear c256
              by_cases h1 : s.size ≤ k + 1
              · have hn0 := Lib.hid ((qpF_short1 (n := n) (acc := acc) hll h37 (by have := hlen.out; omega)).symm.trans hr)
                have hn0 : Hid (([], 2, s.size) = r) := Lib.hid (by rw [← hlen.out]; exact hn0.out)
                replace hr := Lib.hid hr
                replace h37 := Lib.hid h37
                have he : ((k : Int) + 1 == s.size) = true := by rw [beq_iff_eq]; omega
                go_wp2_with fail
                refine (pm.out _).mono ?_; rintro e w1 ⟨rfl, rfl⟩
                go_wp2_with fail
                exact bodyPost_ret (results_tmp3 Tryd.results11 _ _ _) rfl ⟨by rw [← hn0.out]; rfl, by (repeat first | exact Below.refl _ _ | assumption | refine Below.drew ?_ | refine below_drewN ?_ _ | refine Below.more_ ?_ _ | refine Below.setCell ?_ (by first | exact Nat.le_refl _ | (simp; done) | (simp; omega)) _)⟩
              · have hlt1 : k + 1 < s.size := by omega
                have b1 := byte_lf hlt1
                rw [← hl.out] at b1
                have d256 := lf_lt l (k + 1)
                have he : ((k : Int) + 1 == s.size) = false := beq_eq_false_iff_ne.2 (by omega)
                cases hx : qval (lf l (k + 1)) with
                | none =>
                  have hn0 := Lib.hid ((qpF_bad1 (n := n) (acc := acc) h37 (by have := hlen.out; omega) hx).symm.trans hr)
                  have hv : qvi (lf l (k + 1)) = -1 := by rw [qvi, hx]
                  have dm := Lib.hid (fun w => refDigit_any (lf l (k + 1)) w)
                  rw [hv] at dm
                  replace hr := Lib.hid hr
                  replace h37 := Lib.hid h37
                  replace hx := Lib.hid hx
                  replace hv := Lib.hid hv
                  generalize lf l (k + 1) = d at *
                  go_wp2_with fail
                  refine (pm.out _).mono ?_; rintro e w1 ⟨rfl, rfl⟩
                  go_wp2_with fail
                  refine (dm.out _).mono ?_; rintro e w1 ⟨rfl, rfl⟩
                  go_wp2_with fail
                  exact bodyPost_ret (results_tmp3 Tryd.results11 _ _ _) rfl ⟨by rw [← hn0.out]; rfl, by (repeat first | exact Below.refl _ _ | assumption | refine Below.drew ?_ | refine below_drewN ?_ _ | refine Below.more_ ?_ _ | refine Below.setCell ?_ (by first | exact Nat.le_refl _ | (simp; done) | (simp; omega)) _)⟩
                | some x =>
                  have x16 := (qdig_qval (lf_lt _ _) hx).1
                  have hv : qvi (lf l (k + 1)) = x := by rw [qvi, hx]
                  have dm := Lib.hid (fun w => refDigit_any (lf l (k + 1)) w)
                  rw [hv] at dm
                  by_cases h2 : s.size ≤ k + 2
                  · have hn0 := Lib.hid ((qpF_short2 (n := n) (acc := acc) h37 (by have := hlen.out; omega) hx (by have := hlen.out; omega)).symm.trans hr)
                    have hn0 : Hid (([], 2, s.size) = r) := Lib.hid (by rw [← hlen.out]; exact hn0.out)
                    have he2 : ((k : Int) + 2 == s.size) = true := by rw [beq_iff_eq]; omega
                    replace hr := Lib.hid hr
                    replace h37 := Lib.hid h37
                    replace hx := Lib.hid hx
                    replace hv := Lib.hid hv
                    generalize lf l (k + 1) = d at *
                    go_wp2_with fail
                    refine (pm.out _).mono ?_; rintro e w1 ⟨rfl, rfl⟩
                    go_wp2_with fail
                    refine (dm.out _).mono ?_; rintro e w1 ⟨rfl, rfl⟩
                    go_wp2_with fail
                    exact bodyPost_ret (results_tmp3 Tryd.results11 _ _ _) rfl ⟨by rw [← hn0.out]; rfl, by (repeat first | exact Below.refl _ _ | assumption | refine Below.drew ?_ | refine below_drewN ?_ _ | refine Below.more_ ?_ _ | refine Below.setCell ?_ (by first | exact Nat.le_refl _ | (simp; done) | (simp; omega)) _)⟩
                  · have hlt2 : k + 2 < s.size := by omega
                    have b2 := byte_lf hlt2
                    rw [← hl.out] at b2
                    have e256 := lf_lt l (k + 2)
                    have he2 : ((k : Int) + 2 == s.size) = false := beq_eq_false_iff_ne.2 (by omega)
                    cases hy : qval (lf l (k + 2)) with
                    | none =>
                      have hn0 := Lib.hid ((qpF_bad2 (n := n) (acc := acc) h37 hx (by have := hlen.out; omega) hy).symm.trans hr)
                      have hv2 : qvi (lf l (k + 2)) = -1 := by rw [qvi, hy]
                      have em := Lib.hid (fun w => refDigit_any (lf l (k + 2)) w)
                      rw [hv2] at em
                      replace hr := Lib.hid hr
                      replace h37 := Lib.hid h37
                      replace hx := Lib.hid hx
                      replace hv := Lib.hid hv
                      replace hy := Lib.hid hy
                      replace hv2 := Lib.hid hv2
                      generalize lf l (k + 1) = d at *
                      generalize lf l (k + 2) = e0 at *
                      go_wp2_with fail
                      refine (pm.out _).mono ?_; rintro e w1 ⟨rfl, rfl⟩
                      go_wp2_with fail
                      refine (dm.out _).mono ?_; rintro e w1 ⟨rfl, rfl⟩
                      go_wp2_with fail
                      refine (em.out _).mono ?_; rintro e w1 ⟨rfl, rfl⟩
                      go_wp2_with fail
                      exact bodyPost_ret (results_tmp3 Tryd.results11 _ _ _) rfl ⟨by rw [← hn0.out]; rfl, by (repeat first | exact Below.refl _ _ | assumption | refine Below.drew ?_ | refine below_drewN ?_ _ | refine Below.more_ ?_ _ | refine Below.setCell ?_ (by first | exact Nat.le_refl _ | (simp; done) | (simp; omega)) _)⟩
                    | some y =>
                      have y16 := (qdig_qval (lf_lt _ _) hy).1
                      have hv2 : qvi (lf l (k + 2)) = y := by rw [qvi, hy]
                      have em := Lib.hid (fun w => refDigit_any (lf l (k + 2)) w)
                      rw [hv2] at em
                      have qm := Lib.hid (fun w => refPlain_any (16 * x + y) w)
                      have hcv : IntKind.u8.wrap (16 * (x : Int) + y) = ((16 * x + y : Nat) : Int) := by rw [IntKind.wrap_u8]; omega
                      cases hpp : qplain (16 * x + y)
                      · rw [hpp] at qm
                        have hn0 := (qpF_step (n := n) (acc := acc) h37 hx (by have := hlen.out; omega) hy hpp).symm.trans hr
                        replace hr := Lib.hid hr
                        replace h37 := Lib.hid h37
                        replace hx := Lib.hid hx
                        replace hv := Lib.hid hv
                        replace hy := Lib.hid hy
                        replace hv2 := Lib.hid hv2
                        replace hpp := Lib.hid hpp
                        generalize lf l (k + 1) = d at *
                        generalize lf l (k + 2) = e0 at *
                        obtain ⟨z, hz⟩ : ∃ z : Nat, z = 16 * x + y := ⟨_, rfl⟩
                        have hz256 : z < 256 := by omega
                        rw [← hz] at hcv qm hn0
                        have hz' := Lib.hid hz
                        clear hz
                        replace hn0 := Lib.hid hn0
                        have ha := fun W => add_str W acc [UInt8.ofNat z] (by simp; omega)
                        go_wp2_with fail
                        refine (pm.out _).mono ?_; rintro e w1 ⟨rfl, rfl⟩
                        go_wp2_with fail
                        refine (dm.out _).mono ?_; rintro e w1 ⟨rfl, rfl⟩
                        go_wp2_with fail
                        refine (em.out _).mono ?_; rintro e w1 ⟨rfl, rfl⟩
                        go_wp2_with fail
                        have hv' := hv.out
                        have hv2' := hv2.out
                        go_quiet ((go_at_call 37; exact Calls.quiet_of_same ((hD.out _ _).mono fun _ _ hp => ⟨hp.1, hp.2.symm⟩)))
                        go_wp2_with fail
                        refine (qm.out _).mono ?_; rintro e w1 ⟨rfl, rfl⟩
                        have hcz := conv_drewN wr nq (UInt8.ofNat z)
                        have hu : u8i (UInt8.ofNat z) = z := by unfold u8i; simp; omega
                        rw [hu] at hcz
                        replace hu := Lib.hid hu
                        go_wp2_with fail
                        go_roundw
                        case rel => exact ⟨n, k + 3, acc ++ [UInt8.ofNat z], by go_num, by omega, by omega, by simp; omega, rfl, hn0.out, by (repeat first | exact Below.refl _ _ | assumption | refine Below.drew ?_ | refine below_drewN ?_ _ | refine Below.more_ ?_ _ | refine Below.setCell ?_ (by first | exact Nat.le_refl _ | (simp; done) | (simp; omega)) _)⟩
                        case measure => simp [intOf]; omega
                      · rw [hpp] at qm
                        have hn0 := Lib.hid ((qpF_form2 (n := n) (acc := acc) h37 hx (by have := hlen.out; omega) hy hpp).symm.trans hr)
                        replace hr := Lib.hid hr
                        replace h37 := Lib.hid h37
                        replace hx := Lib.hid hx
                        replace hv := Lib.hid hv
                        replace hy := Lib.hid hy
                        replace hv2 := Lib.hid hv2
                        replace hpp := Lib.hid hpp
                        obtain ⟨z, hz⟩ : ∃ z : Nat, z = 16 * x + y := ⟨_, rfl⟩
                        have hz256 : z < 256 := by omega
                        rw [← hz] at hcv qm
                        have hz' := Lib.hid hz
                        clear hz
                        generalize lf l (k + 1) = d at *
                        generalize lf l (k + 2) = e0 at *
                        go_wp2_with fail
                        refine (pm.out _).mono ?_; rintro e w1 ⟨rfl, rfl⟩
                        go_wp2_with fail
                        refine (dm.out _).mono ?_; rintro e w1 ⟨rfl, rfl⟩
                        go_wp2_with fail
                        refine (em.out _).mono ?_; rintro e w1 ⟨rfl, rfl⟩
                        go_wp2_with fail
                        have hv' := hv.out
                        have hv2' := hv2.out
                        go_quiet ((go_at_call 37; exact Calls.quiet_of_same ((hD.out _ _).mono fun _ _ hp => ⟨hp.1, hp.2.symm⟩)))
                        go_wp2_with fail
                        refine (qm.out _).mono ?_; rintro e w1 ⟨rfl, rfl⟩
                        go_wp2_with fail
                        exact bodyPost_ret (results_tmp3 Tryd.results11 _ _ _) rfl ⟨by rw [← hn0.out]; rfl, by (repeat first | exact Below.refl _ _ | assumption | refine Below.drew ?_ | refine below_drewN ?_ _ | refine Below.more_ ?_ _ | refine Below.setCell ?_ (by first | exact Nat.le_refl _ | (simp; done) | (simp; omega)) _)⟩
            · have hn0 := Lib.hid ((qpF_form (n := n) (acc := acc) hll hp h37).symm.trans hr)
              have he : ((lf l k : Int) == 37) = false := beq_eq_false_iff_ne.2 (by omega)
              have he' : ((lf l k : Int) != 37) = true := by rw [bne, he]; rfl
              replace hr := Lib.hid hr
              replace hp := Lib.hid hp
              generalize lf l k = c at *
              go_wp2_with fail
              refine (pm.out _).mono ?_; rintro e w1 ⟨rfl, rfl⟩
              go_wp2_with fail
              exact bodyPost_ret (results_tmp3 Tryd.results11 _ _ _) rfl ⟨by rw [← hn0.out]; rfl, by (repeat first | exact Below.refl _ _ | assumption | refine Below.drew ?_ | refine below_drewN ?_ _ | refine Below.more_ ?_ _ | refine Below.setCell ?_ (by first | exact Nat.le_refl _ | (simp; done) | (simp; omega)) _)⟩
          · rw [hp] at pm
            have hn0 := Lib.hid ((qpF_plain (n := n) (acc := acc) hll hp).symm.trans hr)
            replace hr := Lib.hid hr
            replace hp := Lib.hid hp
            generalize lf l k = c at *
            have hcz := conv_one wr (UInt8.ofNat c)
            have hu : u8i (UInt8.ofNat c) = c := by unfold u8i; simp; omega
            rw [hu] at hcz
            replace hu := Lib.hid hu
            have ha := fun W => add_str W acc [UInt8.ofNat c] (by simp; omega)
            go_wp2_with fail
            refine (pm.out _).mono ?_; rintro e w1 ⟨rfl, rfl⟩
            go_wp2_with fail
            go_roundw
            case rel => exact ⟨n, k + 1, acc ++ [UInt8.ofNat c], by go_num, by omega, by omega, by simp; omega, rfl, hn0.out, by (repeat first | exact Below.refl _ _ | assumption | refine Below.drew ?_ | refine below_drewN ?_ _ | refine Below.more_ ?_ _ | refine Below.setCell ?_ (by first | exact Nat.le_refl _ | (simp; done) | (simp; omega)) _)⟩
            case measure => simp [intOf]; omega
end Go.Proofs.YtpmnppjiipbonaaDoor
