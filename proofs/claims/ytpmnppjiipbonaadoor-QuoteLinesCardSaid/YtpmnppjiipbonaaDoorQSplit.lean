/-
  quote.Split: lines as rows (layer 4). No condition.
-/
import Derived.Test.YtpmnppjiipbonaaDoorQRows
import Derived.Test.YtpmnppjiipbonaaDoorQuote3
namespace Go.Proofs.YtpmnppjiipbonaaDoor
set_option linter.unusedVariables false
open Go.RowKit Go.Extern.Stop Go.Stop Go.Extern Go.ChangeShapes

theorem qsp_rows : ∀ (n : Nat) (l : List UInt8) (at_ : Nat) (out : List (List (List UInt8))), (qsp n l at_ out).1.length ≤ out.length + l.length
  | 0, _, _, _ => Nat.le_add_right _ _
  | n + 1, l, at_, out => by
    by_cases h : l = []
    · subst h; rw [qsp_end]; exact Nat.le_add_right _ _
    · rcases spl_index 10 l with ⟨h1, _, _⟩ | ⟨i, h1, h2, _, _⟩
      · rw [qsp_none h h1]; exact Nat.zero_le _
      · cases hr : rg true (l.take i)
        · rw [qsp_bad h h1 hr]; exact Nat.zero_le _
        · rw [qsp_step h h1 hr]
          have := qsp_rows n (l.drop (i + 1)) (at_ + i + 1) (out ++ [spl 32 (l.take i)])
          rw [List.length_drop, List.length_append] at this
          simp at this
          omega
theorem qsplit_rows (l : List UInt8) : (qsplit l).1.length ≤ l.length := by
  have := qsp_rows l.length l 0 []
  simpa [qsplit] using this
theorem ext_list (s : ByteArray) (a b : Nat) : (s.extract a b).data.toList = (s.data.toList.drop a).take (b - a) := by
  simp only [ByteArray.data_extract, Array.toList_extract, List.extract_eq_take_drop]
theorem ext_to_end (s : ByteArray) (k : Nat) : (s.extract k s.size).data.toList = s.data.toList.drop k := by
  rw [ext_list, List.take_of_length_le (by rw [List.length_drop, size_list]; omega)]
set_option maxHeartbeats 1000000 in
set_option maxRecDepth 100000 in
theorem split_any {w : World} {sv : Nat → Addr} (S : Sent w sv) (s : ByteArray) (hs : s.size ≤ 1000000) :
    Calls Tryd.prog 17 #[.string s] w fun e w' => ∃ A c v, e = .returned (.tuple #[.slice A (qsplit s.data.toList).1.length c, v]) ∧ LL w' w'.heap.size A (qsplit s.data.toList).1 ∧ TkErr w' sv v ((qsplit s.data.toList).2.2 : Nat) ((qsplit s.data.toList).2.1 : Nat) ∧ Below w.heap.size w w' := by
  obtain ⟨i0, hi, hz0, hz1, hz2⟩ := info_parts infoStrs
  have hll := size_list s
  have hext := ext_to_end s
  generalize hL : s.data.toList = L at *
  replace hL := Lib.hid hL
  replace S := Lib.hid S
  have hq0 : qsplit L = qsp L.length L 0 [] := rfl
  generalize hQ : qsplit L = Q at *
  replace hQ := Lib.hid hQ
  go_enter Tryd.func17, Tryd.ntmps17
  go_wp2_with fail
  go_loopw [4, 5] (fun v a wr => ∃ (k n : Nat) (vs : List Value) (rows : List (List (List UInt8))), a = .int .i64 k ∧ k ≤ s.size ∧ L.length ≤ k + n ∧ OwnV wr w.heap.size v vs rows ∧ rows.length ≤ k ∧ Hid (qsp n (L.drop k) k rows = Q) ∧ Below w.heap.size w wr) (fun _ a _ => s.size - (intOf a).toNat)
  case atStart => exact ⟨0, L.length, [], [], rfl, Nat.zero_le _, by omega, OwnV.nil _ _, Nat.zero_le _, hq0.symm, Below.refl _ _⟩
  case round =>
    obtain ⟨k, n, vs, rows, rfl, hk, hn, hO, hrk, hq, hb⟩ := hrel
    have hwlt := hb.size
    clear hq0
    by_cases hk2 : k < s.size
    · have hne : L.drop k ≠ [] := fun e => by
        have := congrArg List.length e
        rw [List.length_drop] at this
        simp at this; omega
      obtain ⟨n, rfl⟩ : ∃ m, n = m + 1 := ⟨n - 1, by omega⟩
      have hsx : (s.extract k s.size).size = s.size - k := by rw [ByteArray.size_extract]; omega
      have hlx := hext k
      have hxx := fun i => ext_list (s.extract k s.size) 0 i
      have hxs : ∀ i, i ≤ s.size - k → ((s.extract k s.size).extract 0 i).size = i := fun i hi => by rw [ByteArray.size_extract]; omega
      rw [hlx] at hxx
      have hW := fun W (h : Below w.heap.size w W) => quoteWrong_any (S.out.below h) (k : Int) 1 (by decide)
      replace hW := Lib.hid hW
      have hkk : (0 : Int) ≤ (k : Int) := by omega
      have hkk2 : (k : Int) ≤ (s.size : Int) := by omega
      rcases spl_index 10 (L.drop k) with ⟨h1, _, _⟩ | ⟨i, h1, h2, _, _⟩
      · rw [qsp_none hne h1] at hq
        have hC := fun W => cutMiss (s.extract k s.size) 10 W (by rw [hlx]; exact h1)
        have hR := fun W => rows_any (s.extract k s.size) W (by omega)
        clear hxx hxs h1
        generalize hx : s.extract k s.size = x at *
        generalize rg true x.data.toList = right at *
        replace hC := Lib.hid hC
        replace hR := Lib.hid hR
        replace hlx := Lib.hid hlx
        go_wp2_with fail
        refine (hC.out _).mono ?_; rintro e w1 ⟨rfl, rfl⟩
        go_wp2_with fail
        refine (hR.out _).mono ?_; rintro e w2 ⟨A, m, c, rfl, _, hb2⟩
        have hb3 := Below.next_ hb hb2
        go_wp2_with fail
        refine (hW.out _ hb3).mono ?_; rintro e w3 ⟨v, rfl, hv, hb4⟩
        go_wp2_with fail
        have hq' : Q = ([], 1, k) := hq.out.symm
        refine bodyPost_ret (results_tmp2 Tryd.results17 _ _ _) rfl ?_
        refine ⟨_, _, _, by rw [hq']; rfl, by rw [hq']; exact LL.nil, .inr ⟨by rw [hq']; show ((1 : Nat) : Int) ≠ 0; decide, by rw [hq']; exact hv⟩, Below.next_ hb3 hb4⟩
      · rw [List.length_drop] at h2
        have hC := fun W => cutHit (s.extract k s.size) 10 i W (by rw [hlx]; exact h1) (by omega) (by omega)
        have hR := fun W => rows_any ((s.extract k s.size).extract 0 i) W (by rw [hxs i (by omega)]; omega)
        have hxs' := hxs i (by omega)
        have hxx' := hxx i
        rw [Nat.sub_zero, List.drop_zero] at hxx'
        rw [hxx'] at hR
        generalize hx : s.extract k s.size = x at *
        generalize x.extract 0 i = line at *
        generalize x.extract (i + 1) x.size = rest at *
        clear hxx hxs hlx hsx hxx' hext
        replace hC := Lib.hid hC
        cases hr : rg true ((L.drop k).take i)
        · rw [qsp_bad hne h1 hr] at hq
          rw [hr] at hR
          replace hR := Lib.hid hR
          replace hr := Lib.hid hr
          go_wp2_with fail
          refine (hC.out _).mono ?_; rintro e w1 ⟨rfl, hb1⟩
          have hb2 := Below.next_ hb hb1
          go_wp2_with fail
          refine (hR.out _).mono ?_; rintro e w2 ⟨A, m, c, rfl, _, hb3⟩
          have hb4 := Below.next_ hb2 hb3
          go_wp2_with fail
          refine (hW.out _ hb4).mono ?_; rintro e w3 ⟨v, rfl, hv, hb5⟩
          go_wp2_with fail
          have hq' : Q = ([], 1, k) := hq.out.symm
          refine bodyPost_ret (results_tmp2 Tryd.results17 _ _ _) rfl ?_
          refine ⟨_, _, _, by rw [hq']; rfl, by rw [hq']; exact LL.nil, .inr ⟨by rw [hq']; show ((1 : Nat) : Int) ≠ 0; decide, by rw [hq']; exact hv⟩, Below.next_ hb4 hb5⟩
        · rw [qsp_step hne h1 hr, List.drop_drop] at hq
          rw [hr] at hR
          generalize spl 32 ((L.drop k).take i) = P at *
          replace hR := Lib.hid hR
          replace hr := Lib.hid hr
          replace h1 := Lib.hid h1
          go_wp2_with fail
          refine (hC.out _).mono ?_; rintro e w1 ⟨rfl, hb1⟩
          have hb2 := Below.next_ hb hb1
          go_wp2_with fail
          refine (hR.out _).mono ?_; rintro e w2 ⟨A, m, c, rfl, hrow, hb3⟩
          obtain ⟨rfl, hrow⟩ := hrow trivial
          have hb4 := Below.next_ hb2 hb3
          have hO4 := (hO.below hb1).below hb3
          have hrow4 : OwnRow w2 w.heap.size (.slice A P.length c) P := hrow.low hb2.size
          have hown := hO4.own
          have hz4 := hb4.size
          replace hO4 := Lib.hid hO4
          replace hrow4 := Lib.hid hrow4
          replace hq := Lib.hid hq
          clear hO hrow hb hb1 hb2 hb3
          go_wp2_with (at_builtin; go_loud (refine wpList_append_any _ rfl _ _ 32 rfl w.heap.size 33 i0 (.slice none 0 0) 1 24 Tryd.underlying32 hi hz0 hz1 hz2 rfl (by decide) _ _ _ rfl (hown.alloc _) (w2.heap.size + 1) (some ⟨w2.heap.size, 0, none⟩) 1 1 [.slice A P.length c] rfl (reads_new w2 33 (.slice A P.length c)) (by simp [Value.oneCell']) (by unfold maxLen; omega) (by omega) (by simp; omega) ?_; intro v' w5 hown5 hgrow hloc; have hb5 := own_below (Nat.le_refl _) (Below.more_ hb4 (.cells #[.slice A P.length c] 33)) (hown.alloc _) hgrow; have hO5 : OwnV w5 w.heap.size v' (vs ++ [.slice A P.length c]) (rows ++ [P]) := OwnV.snoc (hO4.out.below ((Below.refl _ _).alloc (Nat.le_refl _) (.cells #[.slice A P.length c] 33))) (hrow4.out.below ((Below.refl _ _).alloc (Nat.le_refl _) (.cells #[.slice A P.length c] 33))) hown5 hgrow; replace hb5 := Lib.hid hb5; replace hO5 := Lib.hid hO5))
          go_roundw
          case rel => exact ⟨k + i + 1, n, _, _, by go_num, by omega, by omega, hO5.out, by simp; omega, by rw [show k + i + 1 = k + (i + 1) by omega]; exact hq.out, hb5.out⟩
          case measure => simp [intOf]; omega
    · have e : L.drop k = [] := List.drop_eq_nil_of_le (by omega)
      rw [e, qsp_end] at hq
      rcases hO.own.2 with ⟨rfl, h0⟩ | ⟨g, cap, cur, rfl, _⟩
      · obtain rfl : rows = [] := List.eq_nil_of_length_eq_zero h0
        have hq' : Q = ([], 0, 0) := hq.out.symm
        replace hq := Lib.hid hq
        replace hq' := Lib.hid hq'
        go_wp2_with fail
        refine bodyPost_ret (results_tmp2 Tryd.results17 _ _ _) rfl ?_
        exact ⟨_, _, _, by rw [hq'.out]; rfl, by rw [hq'.out]; exact LL.nil, .inl ⟨by rw [hq'.out]; rfl, rfl⟩, hb⟩
      · have hq' : Q = (rows, 0, 0) := hq.out.symm
        replace hq := Lib.hid hq
        replace hq' := Lib.hid hq'
        go_wp2_with fail
        refine bodyPost_ret (results_tmp2 Tryd.results17 _ _ _) rfl ?_
        exact ⟨_, _, _, by rw [hq'.out]; rfl, by rw [hq'.out]; exact hO.ll, .inl ⟨by rw [hq'.out]; rfl, rfl⟩, hb⟩
end Go.Proofs.YtpmnppjiipbonaaDoor
