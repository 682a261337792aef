/-
  The document's Split (layer 4). No condition.
-/
import Derived.Test.YtpmnppjiipbonaaDoorQRef2
namespace Go.Proofs.YtpmnppjiipbonaaDoor
set_option linter.unusedVariables false
open Go.RowKit Go.Extern.Stop Go.Stop Go.Extern Go.ChangeShapes

/-- The lines of a text, from the k-th one on, begin at a. -/
theorem drop_one {P : List (List UInt8)} {k : Nat} {x : List UInt8} (h : P.drop k = [x]) : ∃ hk : k < P.length, P[k] = x ∧ k + 1 = P.length := by
  have hl := congrArg List.length h
  rw [List.length_drop] at hl
  have hk : k < P.length := by simp at hl; omega
  rw [List.drop_eq_getElem_cons hk] at h
  injection h with h1 h2
  exact ⟨hk, h1, by simp at hl; omega⟩
theorem drop_two {P : List (List UInt8)} {k : Nat} {x : List UInt8} {r : List (List UInt8)} (hr : r ≠ []) (h : P.drop k = x :: r) : ∃ hk : k < P.length, P[k] = x ∧ k + 1 < P.length ∧ P.drop (k + 1) = r := by
  have hl := congrArg List.length h
  rw [List.length_drop, List.length_cons] at hl
  have h0 := List.length_pos_iff.2 hr
  have hk : k < P.length := by omega
  rw [List.drop_eq_getElem_cons hk] at h
  injection h with h1 h2
  exact ⟨hk, h1, by omega, h2⟩
theorem OwnRow.cell {w : World} {B n c : Nat} {ad : Addr} {r : List (List UInt8)} (h : OwnRow w B (.slice (some ad) n c) r) {j : Nat} (hj : j < r.length) : w.cell? (ad.add j) = some (.string (bs r[j])) := by
  obtain ⟨A, c', e, h1⟩ := h
  injection e with e1 e2 e3
  subst e1
  obtain ⟨ad', e, _, h2⟩ := LL.word (Reads.of_own h1) hj
  injection e with e
  subst e
  exact h2
theorem all_words {r : List (List UInt8)} {M : Nat} (hM : r.length ≤ M) (h : ∀ j, j < M → ∀ hj : j < r.length, r[j] ≠ []) : (r.all fun x => decide (x ≠ [])) = true := by
  rw [List.all_eq_true]
  intro x hx
  obtain ⟨j, hj, rfl⟩ := List.getElem_of_mem hx
  simpa using h j (by omega) hj
theorem no_words {r : List (List UInt8)} {j : Nat} (hj : j < r.length) (h : r[j] = []) : (r.all fun x => decide (x ≠ [])) = false := by
  rw [Bool.eq_false_iff]
  intro hc
  have := List.all_eq_true.1 hc _ (List.getElem_mem hj)
  rw [h] at this
  simp at this
set_option maxHeartbeats 2000000 in
set_option maxRecDepth 100000 in
theorem refSplit_any (s : ByteArray) (w : World) (hs : s.size ≤ 1000000) :
    Calls Tryd.prog 19 #[.string s] w fun e w' => ∃ A c, e = .returned (.tuple #[.slice A (qsplit s.data.toList).1.length c, .int .i64 (qsplit s.data.toList).2.1, .int .i64 (qsplit s.data.toList).2.2]) ∧ LL w' w'.heap.size A (qsplit s.data.toList).1 ∧ Below w.heap.size w w' := by
  obtain ⟨i0, hi, hz0, hz1, hz2⟩ := info_parts infoStrs
  have hll := size_list s
  have hPl := spl_len 10 s.data.toList
  have hP0 := spl_ne 10 s.data.toList
  have hC := fun W => refCut_any s 10 10 rfl W hs
  generalize hL : s.data.toList = L at *
  replace hL := Lib.hid hL
  have hq0 : qsplit L = qsp L.length L 0 [] := rfl
  generalize hQ : qsplit L = Q at *
  replace hQ := Lib.hid hQ
  generalize hP : spl 10 L = P at *
  replace hP := Lib.hid hP
  replace hC := Lib.hid hC
  have hPl2 : P.length ≤ 1000001 := by omega
  have hP1 := List.length_pos_iff.2 hP0
  go_enter Tryd.func19, Tryd.ntmps19
  go_wp2_with fail
  refine (hC.out _).mono ?_; rintro e w1 ⟨A, kc, rfl, hO, hb1⟩
  have hb0 : Below w.heap.size w (w.alloc (.cells #[] 33)) := (Below.refl _ _).alloc (Nat.le_refl _) _
  have hv0 : OwnV w1 w.heap.size (.slice (some ⟨w.heap.size, 0, none⟩) 0 0) [] [] := OwnV.below ⟨⟨rfl, .inr ⟨w.heap.size, 0, #[], rfl, Nat.le_refl _, Blk.new w _ _, Nat.le_refl _, Nat.zero_le _, rfl, rfl⟩⟩, fun i u r h => by simp at h⟩ hb1
  have hl1 : OwnRow w1 w.heap.size (.slice A P.length kc) P := hO.low (by simp)
  have hb01 := Below.next_ hb0 hb1
  replace hv0 := Lib.hid hv0
  replace hl1 := Lib.hid hl1
  replace hb01 := Lib.hid hb01
  clear hO hb0 hb1 hC
  go_wp2_with fail
  go_loopw [5, 7, 8] (fun v at_ i wr => ∃ (a k n : Nat) (vs : List Value) (rows : List (List (List UInt8))), at_ = .int .i64 a ∧ i = .int .i64 k ∧ k < P.length ∧ a ≤ s.size ∧ L.length ≤ a + n ∧ OwnV wr w.heap.size v vs rows ∧ rows.length ≤ a ∧ Hid (qsp n (L.drop a) a rows = Q) ∧ Hid (P.drop k = spl 10 (L.drop a)) ∧ OwnRow wr w.heap.size (.slice A P.length kc) P ∧ Below w.heap.size w wr) (fun _ _ i _ => P.length - (intOf i).toNat)
  case atStart => exact ⟨0, 0, L.length, [], [], rfl, rfl, hP1, Nat.zero_le _, by omega, hv0.out, Nat.zero_le _, hq0.symm, by rw [Hid, List.drop_zero, List.drop_zero, hP.out], hl1.out, hb01.out⟩
  case round =>
    obtain ⟨a, k, n, vs, rows, rfl, rfl, hk, ha, hn, hOV, hra, hq, hpk, hl, hb⟩ := hrel
    clear hv0 hl1 hb01 hq0
    obtain ⟨A', kc', he, hlo⟩ := hl
    injection he with he1 he2 he3
    subst he1 he3
    have hlr := Reads.of_own hlo
    have hrowC := fun (x : List UInt8) (hx : x.length ≤ 1000000) W => refCut_any (bs x) 32 32 rfl W (by rw [size_bs]; exact hx)
    rcases spl_index 10 (L.drop a) with ⟨h1, h2, _⟩ | ⟨i, h1, h2, h3, _⟩
    · rw [h2] at hpk
      obtain ⟨_, hPk, hk1⟩ := drop_one hpk.out
      obtain ⟨ad, rfl, hadb, hcell⟩ := LL.word hlr hk
      rw [hPk] at hcell
      have eN : ((k : Int) == (P.length : Int) - 1) = true := by rw [beq_iff_eq]; omega
      by_cases hne : L.drop a = []
      · have hq' : Q = (rows, 0, 0) := by
          have := hq.out.symm
          rwa [hne, qsp_end] at this
        rw [hne] at hcell
        have hcell' : _ = some (Value.string ⟨#[]⟩) := hcell
        replace hq' := Lib.hid hq'
        clear hcell hq hpk
        rcases hOV.own.2 with ⟨rfl, h0⟩ | ⟨g, cap, cur, rfl, _⟩
        · obtain rfl : rows = [] := List.eq_nil_of_length_eq_zero h0
          go_wp2_with fail
          refine bodyPost_ret (results_tmp3 Tryd.results19 _ _ _) rfl ?_
          exact ⟨_, ⟨_, by rw [hq'.out]; rfl⟩, by rw [hq'.out]; exact LL.nil, hb⟩
        · go_wp2_with fail
          refine bodyPost_ret (results_tmp3 Tryd.results19 _ _ _) rfl ?_
          exact ⟨_, ⟨_, by rw [hq'.out]; rfl⟩, by rw [hq'.out]; exact hOV.ll, hb⟩
      · obtain ⟨n, rfl⟩ : ∃ m, n = m + 1 := ⟨n - 1, by
          have := List.length_pos_iff.2 hne
          rw [List.length_drop] at this
          omega⟩
        have hq' : Q = ([], 1, a) := by
          have := hq.out.symm
          rwa [qsp_none hne h1] at this
        replace hq' := Lib.hid hq'
        have hxl : (L.drop a).length ≤ 1000000 := by rw [List.length_drop]; omega
        have hR := hrowC (L.drop a) hxl
        have hx1 : (bs (L.drop a)).data.toList = L.drop a := list_bs _
        rw [hx1] at hR
        have hxs : 0 < (bs (L.drop a)).size := by rw [size_bs]; exact List.length_pos_iff.2 hne
        have hxe := txt_ne_empty hxs
        have hxb : ((bs (L.drop a)).toList == []) = false := beq_eq_false_iff_ne.2 hxe
        clear hq hpk hne h1 h2 hPk
        generalize bs (L.drop a) = x at *
        have hpl := spl_len 32 (L.drop a)
        generalize spl 32 (L.drop a) = W32 at *
        replace hR := Lib.hid hR
        go_wp2_with fail
        refine (hR.out _).mono ?_; rintro e w2 ⟨B, bc, rfl, hO2, hb2⟩
        obtain ⟨B', bc', he, hlo2⟩ := hO2
        injection he with he1 he2 he3
        subst he1 he3
        have hlr2 := Reads.of_own hlo2
        have hcell2 := (hb2.cell (p := ad.add k) (by rw [block_of_add]; exact hadb)).trans hcell
        have hbb := Below.next_ hb hb2
        replace hlr2 := Lib.hid hlr2
        replace hbb := Lib.hid hbb
        clear hcell hlo2 hb2
        go_wp2_with fail
        go_loopw [10] (fun j wr' => ∃ q : Nat, j = .int .i64 q ∧ q ≤ W32.length ∧ Below w2.heap.size w2 wr') (fun j _ => W32.length + 1 - (intOf j).toNat)
        case atStart => exact ⟨0, rfl, Nat.zero_le _, Below.refl _ _⟩
        case round =>
          obtain ⟨q, rfl, hq1, hb3⟩ := hrel
          by_cases hlt : q < W32.length
          · obtain ⟨bd, rfl, hbd, g0⟩ := LL.word hlr2.out hlt
            have g1 := (hb3.cell (p := bd.add q) (by rw [block_of_add]; exact hbd)).trans g0
            clear g0 hcell2
            by_cases hz : W32[q] = []
            · rw [hz] at g1
              have g2 : _ = some (Value.string ⟨#[]⟩) := g1
              clear g1
              go_wp2_with fail
              refine bodyPost_ret (results_tmp3 Tryd.results19 _ _ _) rfl ?_
              exact ⟨_, _, by rw [hq'.out]; rfl, by rw [hq'.out]; exact LL.nil, Below.next_ hbb.out hb3⟩
            · have hys : 0 < (bs W32[q]).size := by rw [size_bs]; exact List.length_pos_iff.2 hz
              have hye := txt_ne_empty hys
              have hyb : ((bs W32[q]).toList == []) = false := beq_eq_false_iff_ne.2 hye
              generalize bs W32[q] = y at *
              go_wp2_with fail
              go_roundw
              case rel => exact ⟨q + 1, by go_num, by omega, hb3⟩
              case measure => simp [intOf]; omega
          · clear hcell2
            go_wp2_with fail
            refine bodyPost_ret (results_tmp3 Tryd.results19 _ _ _) rfl ?_
            exact ⟨_, _, by rw [hq'.out]; rfl, by rw [hq'.out]; exact LL.nil, Below.next_ hbb.out hb3⟩
    · rw [h3] at hpk
      obtain ⟨_, hPk, hk1, hpk2⟩ := drop_two (spl_ne _ _) hpk.out
      rw [List.drop_drop] at hpk2
      obtain ⟨ad, rfl, hadb, hcell⟩ := LL.word hlr hk
      rw [hPk] at hcell
      have eN : ((k : Int) == (P.length : Int) - 1) = false := beq_eq_false_iff_ne.2 (by omega)
      have hne : L.drop a ≠ [] := fun e => by rw [e] at h2; simp at h2
      rw [List.length_drop] at h2
      obtain ⟨n, rfl⟩ : ∃ m, n = m + 1 := ⟨n - 1, by omega⟩
      have hxl : ((L.drop a).take i).length ≤ 1000000 := by rw [List.length_take, List.length_drop]; omega
      have hR := hrowC ((L.drop a).take i) hxl
      have hx1 : (bs ((L.drop a).take i)).data.toList = (L.drop a).take i := list_bs _
      rw [hx1] at hR
      have hxs : (bs ((L.drop a).take i)).size = i := by rw [size_bs, List.length_take, List.length_drop]; omega
      have hbad : rg true ((L.drop a).take i) = false → Q = ([], 1, a) := fun h => by
        have := hq.out.symm
        rwa [qsp_bad hne h1 h] at this
      have hgood : rg true ((L.drop a).take i) = true → Q = qsp n (L.drop (a + (i + 1))) (a + i + 1) (rows ++ [spl 32 ((L.drop a).take i)]) := fun h => by
        have := hq.out.symm
        rwa [qsp_step hne h1 h, List.drop_drop] at this
      have hrg := rg_true ((L.drop a).take i)
      have hPx : bs P[k] = bs ((L.drop a).take i) := by rw [hPk]
      clear hq hpk hne h1 h3 hPk hx1 hxl
      generalize bs ((L.drop a).take i) = x at *
      replace hPx := Lib.hid hPx
      generalize rg true ((L.drop a).take i) = right at *
      have hpl := spl_len 32 ((L.drop a).take i)
      rw [List.length_take, List.length_drop] at hpl
      generalize spl 32 ((L.drop a).take i) = W32 at *
      replace hR := Lib.hid hR
      replace hbad := Lib.hid hbad
      replace hgood := Lib.hid hgood
      replace hrg := Lib.hid hrg
      replace hpk2 := Lib.hid hpk2
      go_wp2_with fail
      refine (hR.out _).mono ?_; rintro e w2 ⟨B, bc, rfl, hO2, hb2⟩
      have hO2' := hO2
      obtain ⟨B', bc', he, hlo2⟩ := hO2
      injection he with he1 he2 he3
      subst he1 he3
      have hlr2 := Reads.of_own hlo2
      have hcell2 := (hb2.cell (p := ad.add k) (by rw [block_of_add]; exact hadb)).trans hcell
      have hbb := Below.next_ hb hb2
      have hOV2 := hOV.below hb2
      have hl2 : OwnRow w2 w.heap.size (.slice (some ad) P.length kc) P := OwnRow.below ⟨_, _, rfl, hlo⟩ hb2
      have hr2 := hO2'.low (B' := w.heap.size) hb.size
      have hadb2 : ad.block < w2.heap.size := by have := hb2.size; omega
      replace hlr2 := Lib.hid hlr2
      replace hbb := Lib.hid hbb
      replace hOV2 := Lib.hid hOV2
      replace hl2 := Lib.hid hl2
      replace hr2 := Lib.hid hr2
      clear hcell hlo2 hb2 hO2' hOV hb hlo hlr
      go_wp2_with fail
      go_loopw [10] (fun j wr' => ∃ q : Nat, j = .int .i64 q ∧ q ≤ W32.length ∧ Hid (∀ j, j < q → ∀ hj : j < W32.length, W32[j] ≠ []) ∧ Below w2.heap.size w2 wr') (fun j _ => W32.length + 1 - (intOf j).toNat)
      case atStart => exact ⟨0, rfl, Nat.zero_le _, fun j hj => absurd hj (by omega), Below.refl _ _⟩
      case round =>
        obtain ⟨q, rfl, hq1, hall, hb3⟩ := hrel
        by_cases hlt : q < W32.length
        · obtain ⟨bd, rfl, hbd, g0⟩ := LL.word hlr2.out hlt
          have g1 := (hb3.cell (p := bd.add q) (by rw [block_of_add]; exact hbd)).trans g0
          clear g0 hcell2
          by_cases hz : W32[q] = []
          · have hq' := Lib.hid (hbad.out (hrg.out.trans (no_words hlt hz)))
            rw [hz] at g1
            have g2 : _ = some (Value.string ⟨#[]⟩) := g1
            clear g1
            go_wp2_with fail
            refine bodyPost_ret (results_tmp3 Tryd.results19 _ _ _) rfl ?_
            exact ⟨_, _, by rw [hq'.out]; rfl, by rw [hq'.out]; exact LL.nil, Below.next_ hbb.out hb3⟩
          · have hys : 0 < (bs W32[q]).size := by rw [size_bs]; exact List.length_pos_iff.2 hz
            have hye := txt_ne_empty hys
            have hyb : ((bs W32[q]).toList == []) = false := beq_eq_false_iff_ne.2 hye
            have hall2 : Hid (∀ j, j < q + 1 → ∀ hj : j < W32.length, W32[j] ≠ []) := fun j hj hj2 => by
              by_cases h : j = q
              · subst h; exact hz
              · exact hall.out j (by omega) hj2
            replace hz := Lib.hid hz
            generalize bs W32[q] = y at *
            go_wp2_with fail
            go_roundw
            case rel => exact ⟨q + 1, by go_num, by omega, hall2, hb3⟩
            case measure => simp [intOf]; omega
        · have hq' := Lib.hid (hgood.out (hrg.out.trans (all_words (M := q) (by omega) hall.out)))
          have hcell3 := (hb3.cell (p := ad.add k) (by rw [block_of_add]; exact hadb2)).trans hcell2
          have hOV3 := hOV2.out.below hb3
          have hl3 := hl2.out.below hb3
          have hr3 := hr2.out.below hb3
          have hbb3 := Below.next_ hbb.out hb3
          have hown := hOV3.own
          have hz3 := hbb3.size
          have hadb3 : ad.block < w2.heap.size := hadb2
          have hsz3 := hb3.size
          replace hOV3 := Lib.hid hOV3
          replace hl3 := Lib.hid hl3
          replace hr3 := Lib.hid hr3
          replace hbb3 := Lib.hid hbb3
          clear hall hcell2 hb3
          go_wp2_with (at_builtin; go_loud (refine wpList_append_any _ rfl _ _ 32 rfl w.heap.size 33 i0 (.slice none 0 0) 1 24 Tryd.underlying32 hi hz0 hz1 hz2 rfl (by decide) _ _ _ rfl (hown.alloc _) (wr.heap.size + 1) (some ⟨wr.heap.size, 0, none⟩) 1 1 [.slice B W32.length bc] rfl (reads_new wr 33 (.slice B W32.length bc)) (by simp [Value.oneCell']) (by unfold maxLen; omega) (by omega) (by simp; omega) ?_; intro v' w5 hown5 hgrow hloc; have hx5 := (Below.refl wr.heap.size wr).alloc (Nat.le_refl _) (.cells #[.slice B W32.length bc] 33); have hb5 := own_below (Nat.le_refl _) (Below.more_ hbb3.out (.cells #[.slice B W32.length bc] 33)) (hown.alloc _) hgrow; have hO5 : OwnV w5 w.heap.size v' (vs ++ [.slice B W32.length bc]) (rows ++ [W32]) := OwnV.snoc (hOV3.out.below hx5) (hr3.out.below hx5) hown5 hgrow; have hl5 := (hl3.out.below hx5).grow (hOV3.out.below hx5).own (by decide) hgrow; have hc5 := hl5.cell hk; rw [hPx.out] at hc5; replace hb5 := Lib.hid hb5; replace hO5 := Lib.hid hO5; replace hl5 := Lib.hid hl5; clear hcell3))
          go_roundw
          case rel => exact ⟨a + i + 1, k + 1, n, _, _, by go_num, by go_num, hk1, by omega, by omega, hO5.out, by simp; omega, by rw [show a + i + 1 = a + (i + 1) by omega] at hq' ⊢; exact hq'.out.symm, by rw [show a + i + 1 = a + (i + 1) by omega]; exact hpk2.out, hl5.out, hb5.out⟩
          case measure => simp [intOf]; omega
end Go.Proofs.YtpmnppjiipbonaaDoor
