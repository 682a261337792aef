/-
  Package quote: Parse. No condition.
-/
import Derived.Test.YtpmnppjiipbonaaDoorQuote3
namespace Go.Proofs.YtpmnppjiipbonaaDoor
set_option linter.unusedVariables false
open Go.RowKit Go.Extern.Stop Go.Stop Go.Extern Go.ChangeShapes

theorem kcast1 (k : Nat) : ((k + 1 : Nat) : Int) = (k : Int) + 1 := rfl
theorem kcast2 (k : Nat) : ((k + 2 : Nat) : Int) = (k : Int) + 2 := rfl
theorem u8_join {x y : Nat} (hx : x < 16) (hy : y < 16) : bits .or .u8 ((x : Int) * 16) (y : Int) = ((16 * x + y : Nat) : Int) := by
  have : ∀ x y : Fin 16, bits .or .u8 ((x.val : Int) * 16) (y.val : Int) = ((16 * x.val + y.val : Nat) : Int) := by decide +kernel
  exact this ⟨x, hx⟩ ⟨y, hy⟩
set_option maxRecDepth 100000 in
set_option maxHeartbeats 4000000 in
theorem parseQ_any {w : World} {sv : Nat → Addr} (S : Sent w sv) (s : ByteArray) (hs : s.size ≤ 100000) :
    Calls Tryd.prog 10 #[.string s] w fun e w' => ∃ v, e = .returned (.tuple #[strL (qparse s.data.toList).1, v]) ∧ TkErr w' sv v ((qparse s.data.toList).2.2 : Nat) ((qparse s.data.toList).2.1 : Nat) ∧ Below w.heap.size w w' := by
  have hA0 : Below w.heap.size w (w.alloc (.cells #[.string s] 9)) := (Below.refl _ _).alloc (Nat.le_refl _) _
  have S0 := Lib.hid (S.below hA0)
  have hBox := Lib.hid (Blk.new w 9 #[.string s])
  clear S
  by_cases h0 : s.size = 0
  · obtain rfl : s = ⟨#[]⟩ := by
      apply ba_ext
      rw [List.eq_nil_of_length_eq_zero (show s.data.toList.length = 0 by rw [size_list_]; exact h0)]
    have hW := Lib.hid (quoteWrong_any S0.out 0 2 (by decide))
    have hA0' := Lib.hid hA0
    clear h0 hs hA0
    go_enter Tryd.func10, Tryd.ntmps10
    go_wp2_with fail
    refine (hW.out).mono ?_; rintro e w1 ⟨v, rfl, hv, hb1⟩
    go_wp2_with fail
    exact bodyPost_ret (results_tmp2 Tryd.results10 _ _ _) rfl ⟨_, rfl, .inr ⟨by decide, hv⟩, hA0'.out.trans (hb1.mono (by simp))⟩
  · by_cases h1 : s.data.toList = [45]
    · obtain rfl : s = ⟨#[45]⟩ := ba_ext h1
      have hA0' := Lib.hid hA0
      clear h0 h1 hs hA0
      go_enter Tryd.func10, Tryd.ntmps10
      go_wp2_with fail
      exact bodyPost_ret (results_tmp2 Tryd.results10 _ _ _) rfl ⟨_, rfl, .inl ⟨rfl, rfl⟩, hA0'.out⟩
    · have hne := txt_ne_empty (s := s) (by omega)
      have hnb : (s.toList == []) = false := beq_eq_false_iff_ne.2 hne
      have hn1 : ¬ s.toList = [45] := by rw [ByteArray.toList_eq]; exact h1
      have hn1b : (s.toList == [45]) = false := beq_eq_false_iff_ne.2 hn1
      have hq : qparse s.data.toList = qpF s.data.toList s.data.toList.length 0 [] := by rw [qparse, if_neg (list_ne (s := s) (by omega)), if_neg h1]
      have hlen := size_list_ s
      replace h1 := Lib.hid h1
      generalize qparse s.data.toList = r at *
      obtain ⟨l, hl⟩ : ∃ l, l = s.data.toList := ⟨_, rfl⟩
      rw [← hl] at hq hlen
      replace hl := Lib.hid hl
      replace hq := Lib.hid hq
      replace hlen := Lib.hid hlen
      replace hA0 := Lib.hid hA0
      obtain ⟨i0, hi, hz0, hz1, hz2⟩ := info_parts infoU8
      go_enter Tryd.func10, Tryd.ntmps10
      go_wp2_with fail
      clear hne hnb hn1 hn1b
      go_loopw [4, 6] (fun o i wr => ∃ (n k : Nat) (acc : List UInt8), i = .int .i64 k ∧ k ≤ s.size ∧ s.size ≤ k + n ∧ acc.length ≤ k ∧ (k = 0 ∨ 0 < acc.length) ∧ wr.ownsRow (w.heap.size + 1) 5 1 o acc.length (cellsL acc) ∧ qpF l n k acc = r ∧ Below (w.heap.size + 1) (w.alloc (.cells #[.string s] 9)) wr) (fun _ i _ => s.size + 1 - (intOf i).toNat)
      case atStart => exact ⟨l.length, 0, [], rfl, by omega, by have := hlen.out; omega, by simp, .inl rfl, World.ownsRow_nil _ _ _ _, hq.out.symm, Below.refl _ _⟩
      case round =>
        obtain ⟨n, k, acc, rfl, hk, hkn, hal, hacc, hown, hr, hb⟩ := hrel
        have c0 : wr.cell? ⟨w.heap.size, 0, none⟩ = some (.string s) := (hBox.out.below hb (by omega)).cell 0
        have hS : Sent wr sv := S0.out.below (by simpa using hb)
        have hsz := hb.size
        simp only [World.size_alloc] at hsz
        replace hS := Lib.hid hS
        by_cases hend : k = s.size
        · have hn0 := Lib.hid ((qpF_end (n := n) (acc := acc) (show l.length ≤ k by have := hlen.out; omega)).symm.trans hr)
          replace hr := Lib.hid hr
          obtain ⟨g, cap, rfl, hconv⟩ := own_string hown (by omega)
          subst hend
          go_wp2_with fail
          exact bodyPost_ret (results_tmp2 Tryd.results10 _ _ _) rfl ⟨_, by rw [← hn0.out]; rfl, .inl ⟨by rw [← hn0.out]; rfl, rfl⟩, hA0.out.trans (hb.mono (by omega))⟩
        · have hlt : k < s.size := by omega
          obtain ⟨n, rfl⟩ : ∃ m, n = m + 1 := ⟨n - 1, by omega⟩
          have hll : k < l.length := by have := hlen.out; omega
          have b0 := byte_lf hlt
          rw [← hl.out] at b0
          have c256 := lf_lt l k
          have pm := Lib.hid (fun w => plain_any (lf l k) w)
          cases hp : qplain (lf l k)
          · rw [hp] at pm
            by_cases h37 : lf l k = 37
            · rw [h37] at b0 pm
              replace hp := Lib.hid hp
              clear c256
              by_cases h1 : s.size ≤ k + 1
              · have hn0 := Lib.hid ((qpF_short1 (n := n) (acc := acc) hll h37 (by have := hlen.out; omega)).symm.trans hr)
                have hn0 : Hid (([], 2, s.size) = r) := Lib.hid (by rw [← hlen.out]; exact hn0.out)
                have hd := digit_out hS.out w.heap.size s (k + 1) c0 h1
                rw [kcast1] at hd
                replace hd := Lib.hid hd
                replace hr := Lib.hid hr
                replace h37 := Lib.hid h37
                go_wp2_with fail
                refine (pm.out _).mono ?_; rintro e w1 ⟨rfl, rfl⟩
                go_wp2_with fail
                refine (hd.out).mono ?_; rintro e w2 ⟨v, rfl, hv, hb1⟩
                obtain ⟨t, u, rfl⟩ := hv.iface
                replace hv := Lib.hid hv
                go_wp2_with fail
                exact bodyPost_ret (results_tmp2 Tryd.results10 _ _ _) rfl ⟨_, by rw [← hn0.out]; rfl, .inr ⟨by rw [← hn0.out]; show ((2 : Nat) : Int) ≠ 0; decide, by rw [← hn0.out]; exact hv.out⟩, hA0.out.trans ((nx hb (by simp) hb1).mono (by omega))⟩
              · have hlt1 : k + 1 < s.size := by omega
                have d256 := lf_lt l (k + 1)
                cases hx : qval (lf l (k + 1)) with
                | none =>
                  have hn0 := Lib.hid ((qpF_bad1 (n := n) (acc := acc) h37 (by have := hlen.out; omega) hx).symm.trans hr)
                  have hd := digit_bad hS.out w.heap.size s (k + 1) c0 hlt1 (by rw [← hl.out]; exact hx)
                  rw [kcast1] at hd
                  replace hd := Lib.hid hd
                  replace hr := Lib.hid hr
                  replace h37 := Lib.hid h37
                  replace hx := Lib.hid hx
                  go_wp2_with fail
                  refine (pm.out _).mono ?_; rintro e w1 ⟨rfl, rfl⟩
                  go_wp2_with fail
                  refine (hd.out).mono ?_; rintro e w2 ⟨v, rfl, hv, hb1⟩
                  obtain ⟨t, u, rfl⟩ := hv.iface
                  replace hv := Lib.hid hv
                  go_wp2_with fail
                  exact bodyPost_ret (results_tmp2 Tryd.results10 _ _ _) rfl ⟨_, by rw [← hn0.out]; rfl, .inr ⟨by rw [← hn0.out]; show ((1 : Nat) : Int) ≠ 0; decide, by rw [← hn0.out]; exact hv.out⟩, hA0.out.trans ((nx hb (by simp) hb1).mono (by omega))⟩
                | some x =>
                  have x16 := (qdig_qval (lf_lt _ _) hx).1
                  have hd := digit_ok w.heap.size s (k + 1) x c0 hlt1 (by rw [← hl.out]; exact hx)
                  rw [kcast1] at hd
                  replace hd := Lib.hid hd
                  by_cases h2 : s.size ≤ k + 2
                  · have hn0 := Lib.hid ((qpF_short2 (n := n) (acc := acc) h37 (by have := hlen.out; omega) hx (by have := hlen.out; omega)).symm.trans hr)
                    have hn0 : Hid (([], 2, s.size) = r) := Lib.hid (by rw [← hlen.out]; exact hn0.out)
                    have he := digit_out hS.out w.heap.size s (k + 2) c0 h2
                    rw [kcast2] at he
                    replace he := Lib.hid he
                    replace hr := Lib.hid hr
                    replace h37 := Lib.hid h37
                    replace hx := Lib.hid hx
                    go_wp2_with fail
                    refine (pm.out _).mono ?_; rintro e w1 ⟨rfl, rfl⟩
                    go_wp2_with fail
                    refine (hd.out).mono ?_; rintro e w2 ⟨rfl, rfl⟩
                    go_wp2_with fail
                    refine (he.out).mono ?_; rintro e w2 ⟨v, rfl, hv, hb1⟩
                    obtain ⟨t, u, rfl⟩ := hv.iface
                    replace hv := Lib.hid hv
                    go_wp2_with fail
                    exact bodyPost_ret (results_tmp2 Tryd.results10 _ _ _) rfl ⟨_, by rw [← hn0.out]; rfl, .inr ⟨by rw [← hn0.out]; show ((2 : Nat) : Int) ≠ 0; decide, by rw [← hn0.out]; exact hv.out⟩, hA0.out.trans ((nx hb (by simp) hb1).mono (by omega))⟩
                  · have hlt2 : k + 2 < s.size := by omega
                    have e256 := lf_lt l (k + 2)
                    cases hy : qval (lf l (k + 2)) with
                    | none =>
                      have hn0 := Lib.hid ((qpF_bad2 (n := n) (acc := acc) h37 hx (by have := hlen.out; omega) hy).symm.trans hr)
                      have he := digit_bad hS.out w.heap.size s (k + 2) c0 hlt2 (by rw [← hl.out]; exact hy)
                      rw [kcast2] at he
                      replace he := Lib.hid he
                      replace hr := Lib.hid hr
                      replace h37 := Lib.hid h37
                      replace hx := Lib.hid hx
                      replace hy := Lib.hid hy
                      go_wp2_with fail
                      refine (pm.out _).mono ?_; rintro e w1 ⟨rfl, rfl⟩
                      go_wp2_with fail
                      refine (hd.out).mono ?_; rintro e w2 ⟨rfl, rfl⟩
                      go_wp2_with fail
                      refine (he.out).mono ?_; rintro e w2 ⟨v, rfl, hv, hb1⟩
                      obtain ⟨t, u, rfl⟩ := hv.iface
                      replace hv := Lib.hid hv
                      go_wp2_with fail
                      exact bodyPost_ret (results_tmp2 Tryd.results10 _ _ _) rfl ⟨_, by rw [← hn0.out]; rfl, .inr ⟨by rw [← hn0.out]; show ((1 : Nat) : Int) ≠ 0; decide, by rw [← hn0.out]; exact hv.out⟩, hA0.out.trans ((nx hb (by simp) hb1).mono (by omega))⟩
                    | some y =>
                      have y16 := (qdig_qval (lf_lt _ _) hy).1
                      have he := digit_ok w.heap.size s (k + 2) y c0 hlt2 (by rw [← hl.out]; exact hy)
                      rw [kcast2] at he
                      replace he := Lib.hid he
                      have hj := u8_join x16 y16
                      have qm := Lib.hid (fun w => plain_any (16 * x + y) w)
                      cases hpp : qplain (16 * x + y)
                      · rw [hpp] at qm
                        have hn0 := (qpF_step (n := n) (acc := acc) h37 hx (by have := hlen.out; omega) hy hpp).symm.trans hr
                        replace hr := Lib.hid hr
                        replace h37 := Lib.hid h37
                        replace hx := Lib.hid hx
                        replace hy := Lib.hid hy
                        replace hpp := Lib.hid hpp
                        obtain ⟨z, hz⟩ : ∃ z : Nat, z = 16 * x + y := ⟨_, rfl⟩
                        have hz256 : z < 256 := by omega
                        rw [← hz] at hj qm hn0
                        have hz' := Lib.hid hz
                        clear hz
                        replace hn0 := Lib.hid hn0
                        go_wp2_with fail
                        refine (pm.out _).mono ?_; rintro e w1 ⟨rfl, rfl⟩
                        go_wp2_with fail
                        refine (hd.out).mono ?_; rintro e w2 ⟨rfl, rfl⟩
                        go_wp2_with fail
                        refine (he.out).mono ?_; rintro e w2 ⟨rfl, rfl⟩
                        go_wp2_with fail
                        refine (qm.out _).mono ?_; rintro e w2 ⟨rfl, rfl⟩
                        have hu : u8i (UInt8.ofNat z) = z := by unfold u8i; simp; omega
                        replace hu := Lib.hid hu
                        go_wp2_with (at_builtin; go_loud (refine wpList_append_any _ rfl _ _ 68 rfl (w.heap.size + 1) 5 i0 (.int .u8 0) 1 1 Tryd.underlying68 hi hz0 hz1 hz2 rfl (by decide) _ _ _ rfl (hown.alloc _) (wr.heap.size + 1) (some ⟨wr.heap.size, 0, none⟩) 1 1 [.int .u8 (z : Int)] rfl (reads_new wr 5 (.int .u8 (z : Int))) (by simp [Value.oneCell']) (by unfold maxLen; omega) (by omega) (by simp; omega) ?_; intro v' w1 hown1 hgrow hloc; rw [← hu.out, cellsL_snoc] at hown1; have hb2 : Below (w.heap.size + 1) (w.alloc (.cells #[.string s] 9)) w1 := own_below (by simp) (Below.alloc hb (by omega) _) (hown.alloc _) hgrow; have c1 : w1.cell? ⟨w.heap.size, 0, none⟩ = some (.string s) := (hBox.out.below hb2 (by omega)).cell 0))
                        go_roundw
                        case rel => exact ⟨n, k + 3, acc ++ [UInt8.ofNat z], by go_num, by omega, by omega, by simp; omega, .inr (by simp), by simpa using hown1, hn0.out, hb2⟩
                        case measure => simp [intOf]; omega
                      · rw [hpp] at qm
                        have hn0 := (qpF_form2 (n := n) (acc := acc) h37 hx (by have := hlen.out; omega) hy hpp).symm.trans hr
                        replace hr := Lib.hid hr
                        replace h37 := Lib.hid h37
                        replace hx := Lib.hid hx
                        replace hy := Lib.hid hy
                        replace hpp := Lib.hid hpp
                        obtain ⟨z, hz⟩ : ∃ z : Nat, z = 16 * x + y := ⟨_, rfl⟩
                        have hz256 : z < 256 := by omega
                        rw [← hz] at hj qm
                        have hwr := Lib.hid (quoteWrong_any hS.out (k : Int) 1 (by decide))
                        have hz' := Lib.hid hz
                        clear hz
                        replace hn0 := Lib.hid hn0
                        go_wp2_with fail
                        refine (pm.out _).mono ?_; rintro e w1 ⟨rfl, rfl⟩
                        go_wp2_with fail
                        refine (hd.out).mono ?_; rintro e w2 ⟨rfl, rfl⟩
                        go_wp2_with fail
                        refine (he.out).mono ?_; rintro e w2 ⟨rfl, rfl⟩
                        go_wp2_with fail
                        refine (qm.out _).mono ?_; rintro e w2 ⟨rfl, rfl⟩
                        go_wp2_with fail
                        refine (hwr.out).mono ?_; rintro e w2 ⟨v, rfl, hv, hb1⟩
                        go_wp2_with fail
                        exact bodyPost_ret (results_tmp2 Tryd.results10 _ _ _) rfl ⟨_, by rw [← hn0.out]; rfl, .inr ⟨by rw [← hn0.out]; show ((1 : Nat) : Int) ≠ 0; decide, by rw [← hn0.out]; exact hv⟩, hA0.out.trans ((nx hb (by simp) hb1).mono (by omega))⟩
            · have hn0 := Lib.hid ((qpF_form (n := n) (acc := acc) hll hp h37).symm.trans hr)
              have he : ((lf l k : Int) == 37) = false := beq_eq_false_iff_ne.2 (by omega)
              have he' : ((lf l k : Int) != 37) = true := by rw [bne, he]; rfl
              have hwr := Lib.hid (quoteWrong_any hS.out (k : Int) 1 (by decide))
              replace hr := Lib.hid hr
              replace hp := Lib.hid hp
              generalize lf l k = c at *
              go_wp2_with fail
              refine (pm.out _).mono ?_; rintro e w1 ⟨rfl, rfl⟩
              go_wp2_with fail
              refine (hwr.out).mono ?_; rintro e w2 ⟨v, rfl, hv, hb1⟩
              go_wp2_with fail
              exact bodyPost_ret (results_tmp2 Tryd.results10 _ _ _) rfl ⟨_, by rw [← hn0.out]; rfl, .inr ⟨by rw [← hn0.out]; show ((1 : Nat) : Int) ≠ 0; decide, by rw [← hn0.out]; exact hv⟩, hA0.out.trans ((nx hb (by simp) hb1).mono (by omega))⟩
          · rw [hp] at pm
            have hn0 := Lib.hid ((qpF_plain (n := n) (acc := acc) hll hp).symm.trans hr)
            replace hr := Lib.hid hr
            replace hp := Lib.hid hp
            generalize lf l k = c at *
            go_wp2_with fail
            refine (pm.out _).mono ?_; rintro e w1 ⟨rfl, rfl⟩
            have hu : u8i (UInt8.ofNat c) = c := by unfold u8i; simp; omega
            replace hu := Lib.hid hu
            go_wp2_with (at_builtin; go_loud (refine wpList_append_any _ rfl _ _ 68 rfl (w.heap.size + 1) 5 i0 (.int .u8 0) 1 1 Tryd.underlying68 hi hz0 hz1 hz2 rfl (by decide) _ _ _ rfl (hown.alloc _) (wr.heap.size + 1) (some ⟨wr.heap.size, 0, none⟩) 1 1 [.int .u8 (c : Int)] rfl (reads_new wr 5 (.int .u8 (c : Int))) (by simp [Value.oneCell']) (by unfold maxLen; omega) (by omega) (by simp; omega) ?_; intro v' w1 hown1 hgrow hloc; rw [← hu.out, cellsL_snoc] at hown1; have hb2 : Below (w.heap.size + 1) (w.alloc (.cells #[.string s] 9)) w1 := own_below (by simp) (Below.alloc hb (by omega) _) (hown.alloc _) hgrow; have c1 : w1.cell? ⟨w.heap.size, 0, none⟩ = some (.string s) := (hBox.out.below hb2 (by omega)).cell 0))
            go_roundw
            case rel => exact ⟨n, k + 1, acc ++ [UInt8.ofNat c], by go_num, by omega, by omega, by simp; omega, .inr (by simp), by simpa using hown1, hn0.out, hb2⟩
            case measure => simp [intOf]; omega
end Go.Proofs.YtpmnppjiipbonaaDoor
