/-
  The law QuoteLines (layer 4). No condition.
-/
import Derived.Test.YtpmnppjiipbonaaDoorLawQ1
namespace Go.Proofs.YtpmnppjiipbonaaDoor
set_option linter.unusedVariables false
open Go.RowKit Go.Extern.Stop Go.Stop Go.Extern Go.ChangeShapes

/-- A word that may stand in a line. -/
def wgood (x : List UInt8) : Prop := x ≠ [] ∧ (32 : UInt8) ∉ x ∧ (10 : UInt8) ∉ x
theorem all_succ {α : Type} {P : α → Prop} {l : List α} {j : Nat} {x : α} (hj : j < l.length) (hx : l[j] = x) (h : ∀ z ∈ l.take j, P z) (hp : P x) : ∀ z ∈ l.take (j + 1), P z := fun z hz => by
  rw [List.take_add_one, List.getElem?_eq_getElem hj] at hz
  rcases List.mem_append.1 hz with hz | hz
  · exact h z hz
  · have : z = l[j] := by simpa using hz
    rw [this, hx]; exact hp
theorem wgood_of {x : List UInt8} {n : Nat} (hn : ¬ n < x.length) (h0 : x ≠ []) (h : ∀ c ∈ x.take n, c ≠ 32 ∧ c ≠ 10) : wgood x := by
  rw [List.take_of_length_le (by omega)] at h
  exact ⟨h0, fun hc => (h 32 hc).1 rfl, fun hc => (h 10 hc).2 rfl⟩
theorem u8_ne {x y : UInt8} (h : x.toNat ≠ y.toNat) : x ≠ y := fun e => h (by rw [e])
theorem qrow_bound : ∀ {r : List (List UInt8)}, (∀ x ∈ r, x.length ≤ 30) → (qrow r).length ≤ 31 * r.length
  | [], _ => by simp [qrow]
  | [x], h => by have := h x (by simp); simp [qrow]; omega
  | x :: y :: r, h => by
    have h1 := h x (by simp)
    have h2 := qrow_bound (r := y :: r) fun z hz => h z (by simp [hz])
    simp only [qrow, List.length_append, List.length_cons] at h2 ⊢
    omega
theorem qlines_bound : ∀ {l : List (List (List UInt8))}, (∀ r ∈ l, r.length ≤ 10 ∧ ∀ x ∈ r, x.length ≤ 30) → (qlines l).length ≤ 311 * l.length
  | [], _ => by simp [qlines]
  | r :: l, h => by
    obtain ⟨h1, h2⟩ := h r (by simp)
    have h3 := qrow_bound h2
    have h4 := qlines_bound (l := l) fun z hz => h z (by simp [hz])
    simp only [qlines, List.flatMap_cons, List.length_append, List.length_cons, List.length_nil] at h4 ⊢
    omega
theorem qs_scode (l : List UInt8) : (((qsplit l).2.1 : Nat) : Int) = 0 ∨ sCode (sIdx ((qsplit l).2.1 : Nat)) = ((qsplit l).2.1 : Nat) := by
  rcases qsplit_code l with h | ⟨h, _⟩
  · left; rw [h.1]; rfl
  · right; rw [h]; rfl
set_option maxHeartbeats 4000000 in
set_option maxRecDepth 100000 in
theorem quoteLines_any {w : World} {sv : Nat → Addr} (S : Sent w sv) (T : ETy w) {A : Option Addr} {c : Nat} {rows : List (List (List UInt8))} (h : LL w w.heap.size A rows) (hm : rows.length ≤ maxLen) (s : ByteArray) :
    Calls Tryd.prog 5 #[.slice A rows.length c, .string s] w fun e w' => e = .returned (.bool true) ∧ Below w.heap.size w w' := by
  have hA := fun W (h : Below w.heap.size w W) => awake04_any (S.below h) (T.below h)
  have hSS := fun W (h : Below w.heap.size w W) => S.below h
  have hTT := fun W (h : Below w.heap.size w W) => T.below h
  replace hA := Lib.hid hA
  replace hSS := Lib.hid hSS
  replace hTT := Lib.hid hTT
  clear S T
  unfold maxLen at hm
  by_cases hr : 20 < rows.length
  · go_enter Tryd.func5, Tryd.ntmps5
    go_wp2_with fail
    refine (hA.out _ (Below.refl _ _)).mono ?_; rintro e w1 ⟨rfl, hb⟩
    go_wp2_with fail
    go_ret
    exact ⟨rfl, hb⟩
  · by_cases hs : 1000 < s.size
    · go_enter Tryd.func5, Tryd.ntmps5
      go_wp2_with fail
      refine (hA.out _ (Below.refl _ _)).mono ?_; rintro e w1 ⟨rfl, hb⟩
      go_wp2_with fail
      go_ret
      exact ⟨rfl, hb⟩
    · replace h := Lib.hid h
      go_enter Tryd.func5, Tryd.ntmps5
      go_wp2_with fail
      go_loopw [5, 6] (fun bv i wr => ∃ (k : Nat) (b : Bool), bv = .bool b ∧ i = .int .i64 k ∧ k ≤ rows.length ∧ Hid (b = true → ∀ r ∈ rows.take k, r ≠ [] ∧ ∀ x ∈ r, wgood x) ∧ Hid (∀ r ∈ rows.take k, r.length ≤ 10 ∧ ∀ x ∈ r, x.length ≤ 30) ∧ w = wr) (fun _ i _ => rows.length + 1 - (intOf i).toNat)
      case atStart => exact ⟨0, true, rfl, rfl, Nat.zero_le _, by simp [Hid], by simp [Hid], (by first | rfl | trivial)⟩
      case round =>
        obtain ⟨k, b, rfl, rfl, hk, hw, hbd, rfl⟩ := hrel
        by_cases hlt : k < rows.length
        · obtain ⟨ad, A', c', rfl, hab, hcell, hc1, hc2, hrd⟩ := h.out.at_ hlt
          have hml : rows[k].length ≤ 9223372036854775807 := by unfold maxLen at hc2; omega
          obtain ⟨r, hrk⟩ : ∃ r, rows[k] = r := ⟨_, rfl⟩
          rw [hrk] at hcell hc1 hrd hml
          replace hrk := Lib.hid hrk
          replace hrd := Lib.hid hrd
          by_cases hr10 : 10 < r.length
          · go_wp2_with fail
            refine (hA.out _ (Below.refl _ _)).mono ?_; rintro e w1 ⟨rfl, hb⟩
            go_wp2_with fail
            go_ret
            exact ⟨rfl, hb⟩
          · have hpos : 0 < r.length ∨ r.length = 0 := by omega
            have hr0 : 0 < r.length → r ≠ [] := List.ne_nil_of_length_pos
            replace hr0 := Lib.hid hr0
            rcases hpos with hpos | hpos <;> cases b
            case inr.true | inr.false =>
              go_wp2_with fail
              go_loopw [5, 7] (fun bv i wr => bv = .bool false ∧ i = .int .i64 0 ∧ w = wr) (fun _ i _ => r.length + 1 - (intOf i).toNat)
              case atStart => exact ⟨rfl, rfl, (by first | rfl | trivial)⟩
              case round =>
                obtain ⟨rfl, rfl, rfl⟩ := hrel
                go_wp2_with fail
                go_roundw
                case rel => exact ⟨k + 1, false, rfl, by go_num, by omega, (fun e => by cases e), all_succ hlt hrk.out hbd.out ⟨by omega, fun x hx => by
                  have := List.length_pos_of_mem hx
                  omega⟩, (by first | rfl | trivial)⟩
                case measure => simp [intOf]; omega
            all_goals
              go_wp2_with fail
              go_loopw [5, 7] (fun bv i wr => ∃ (j : Nat) (b : Bool), bv = .bool b ∧ i = .int .i64 j ∧ j ≤ r.length ∧ Hid (b = true → (∀ r ∈ rows.take k, r ≠ [] ∧ ∀ x ∈ r, wgood x) ∧ r ≠ [] ∧ ∀ x ∈ r.take j, wgood x) ∧ Hid (∀ x ∈ r.take j, x.length ≤ 30) ∧ w = wr) (fun _ i _ => r.length + 1 - (intOf i).toNat)
              case atStart => exact ⟨0, _, rfl, rfl, Nat.zero_le _, (by first | (intro e; cases e; done) | (intro _; exact ⟨hw.out (by first | rfl | trivial), hr0.out hpos, by simp⟩)), by simp [Hid], (by first | rfl | trivial)⟩
              case round =>
                obtain ⟨j, b, rfl, rfl, hj, hw2, hbd2, rfl⟩ := hrel
                by_cases hlj : j < r.length
                · obtain ⟨bd, rfl, hbd0, g1⟩ := LL.word hrd.out hlj
                  obtain ⟨x, hxj⟩ : ∃ x, r[j] = x := ⟨_, rfl⟩
                  rw [hxj] at g1
                  have hsz : (bs x).size = x.length := size_bs x
                  have hby := fun n (hn : n < (bs x).size) => byte_lf hn
                  rw [list_bs] at hby
                  have hemp : (x = [] ∧ (bs x).toList = [] ∧ ((bs x).toList == []) = true) ∨ (x ≠ [] ∧ ¬ (bs x).toList = [] ∧ ((bs x).toList == []) = false) := by
                    by_cases hx : x = []
                    · subst hx; have h0 : (bs []).toList = [] := by rw [ByteArray.toList_eq]; rfl
                      exact .inl ⟨rfl, h0, by rw [h0]; rfl⟩
                    · have := txt_ne_empty (s := bs x) (by rw [size_bs]; exact List.length_pos_iff.2 hx)
                      exact .inr ⟨hx, this, beq_eq_false_iff_ne.2 this⟩
                  generalize bs x = X at *
                  replace hxj := Lib.hid hxj
                  replace hby := Lib.hid hby
                  by_cases hx30 : 30 < x.length
                  · clear hemp
                    go_wp2_with fail
                    refine (hA.out _ (Below.refl _ _)).mono ?_; rintro e w1 ⟨rfl, hb⟩
                    go_wp2_with fail
                    go_ret
                    exact ⟨rfl, hb⟩
                  · rcases hemp with ⟨hx0, he1, he2⟩ | ⟨hx0, he1, he2⟩ <;> cases b
                    all_goals
                      replace hx0 := Lib.hid hx0
                      go_wp2_with fail
                      clear he1 he2
                      go_loopw [5, 8] (fun bv i wr => ∃ (n : Nat) (b : Bool), bv = .bool b ∧ i = .int .i64 n ∧ n ≤ x.length ∧ Hid (b = true → ((∀ r ∈ rows.take k, r ≠ [] ∧ ∀ x ∈ r, wgood x) ∧ r ≠ [] ∧ ∀ x ∈ r.take j, wgood x) ∧ x ≠ [] ∧ ∀ c ∈ x.take n, c ≠ 32 ∧ c ≠ 10) ∧ w = wr) (fun _ i _ => x.length + 1 - (intOf i).toNat)
                      case atStart => exact ⟨0, _, rfl, rfl, Nat.zero_le _, (by first | (intro e; cases e; done) | (intro _; exact ⟨hw2.out (by first | rfl | trivial), hx0.out, by simp⟩)), (by first | rfl | trivial)⟩
                      case round =>
                        obtain ⟨n, b, rfl, rfl, hn, hw3, rfl⟩ := hrel
                        by_cases hln : n < x.length
                        · have b0 := hby.out n (by omega)
                          have hxn := Lib.hid (lf_at hln)
                          obtain ⟨y, hy⟩ : ∃ y, lf x n = y := ⟨_, rfl⟩
                          rw [hy] at b0 hxn
                          replace hy := Lib.hid hy
                          cases b
                          · go_wp2_with fail
                            go_roundw
                            case rel => exact ⟨n + 1, false, rfl, by go_num, by omega, (fun e => by cases e), (by first | rfl | trivial)⟩
                            case measure => simp [intOf]; omega
                          · by_cases h32 : y = 32
                            · subst h32
                              go_wp2_with fail
                              go_roundw
                              case rel => exact ⟨n + 1, false, rfl, by go_num, by omega, (fun e => by cases e), (by first | rfl | trivial)⟩
                              case measure => simp [intOf]; omega
                            · have e32 : ((y : Int) == 32) = false := beq_eq_false_iff_ne.2 (by omega)
                              have f32 : ((y : Int) != 32) = true := by rw [bne, e32]; rfl
                              by_cases h10 : y = 10
                              · subst h10
                                go_wp2_with fail
                                go_roundw
                                case rel => exact ⟨n + 1, false, rfl, by go_num, by omega, (fun e => by cases e), (by first | rfl | trivial)⟩
                                case measure => simp [intOf]; omega
                              · have e10 : ((y : Int) == 10) = false := beq_eq_false_iff_ne.2 (by omega)
                                have f10 : ((y : Int) != 10) = true := by rw [bne, e10]; rfl
                                go_wp2_with fail
                                go_roundw
                                case rel => exact ⟨n + 1, true, rfl, by go_num, by omega, (fun _ => ⟨(hw3.out rfl).1, (hw3.out rfl).2.1, all_succ hln rfl (hw3.out rfl).2.2 ⟨u8_ne (by rw [← hxn.out]; exact h32), u8_ne (by rw [← hxn.out]; exact h10)⟩⟩), (by first | rfl | trivial)⟩
                                case measure => simp [intOf]; omega
                        · go_wp2_with fail
                          go_roundw
                          case rel => exact ⟨j + 1, b, rfl, by go_num, by omega, (fun e => ⟨(hw3.out e).1.1, (hw3.out e).1.2.1, all_succ hlj hxj.out (hw3.out e).1.2.2 (wgood_of hln (hw3.out e).2.1 (hw3.out e).2.2)⟩), all_succ hlj hxj.out hbd2.out (by omega), (by first | rfl | trivial)⟩
                          case measure => simp [intOf]; omega
                · go_wp2_with fail
                  go_roundw
                  case rel => exact ⟨k + 1, b, rfl, by go_num, by omega, (fun e => all_succ hlt hrk.out (hw2.out e).1 ⟨(hw2.out e).2.1, by have h2 := (hw2.out e).2.2; rwa [List.take_of_length_le (by omega)] at h2⟩), all_succ hlt hrk.out hbd.out ⟨by omega, by have h2 := hbd2.out; rwa [List.take_of_length_le (by omega)] at h2⟩, (by first | rfl | trivial)⟩
                  case measure => simp [intOf]; omega
        · obtain rfl : k = rows.length := by omega
          have hb1 := hbd.out
          rw [List.take_length] at hb1
          have hq := qlines_bound hb1
          have hw1 := hw.out
          rw [List.take_length] at hw1
          have L1 := fun W (hb : Below w.heap.size w W) => lines_any (c := c) ((h.out.below hb).more hb.size) (by omega) (by omega)
          have L2 := fun W (hb : Below w.heap.size w W) => refLines_any (c := c) ((h.out.below hb).more hb.size) (by omega) (by omega)
          have hsp := fun W (hb : Below w.heap.size w W) => split_any (hSS.out W hb) (bs (qlines rows)) (by rw [size_bs]; omega)
          rw [list_bs] at hsp
          have hll := size_list s
          have Q1 := fun W (hb : Below w.heap.size w W) => split_any (hSS.out W hb) s (by omega)
          have Q2 := fun W => refSplit_any s W (by omega)
          have hRl := qsplit_rows s.data.toList
          have hqc := qs_scode s.data.toList
          have hback : b = true → qsplit (qlines rows) = (rows, 0, 0) := fun e => qsplit_lines fun r hr => ⟨(hw1 e r hr).1, (hw1 e r hr).2⟩
          rw [show strL (qlines rows) = .string (bs (qlines rows)) from rfl] at L1 L2
          clear hw hbd hb1 hw1 hq
          generalize bs (qlines rows) = TX at *
          generalize (qsplit s.data.toList).1 = R at *
          generalize (((qsplit s.data.toList).2.1 : Nat) : Int) = cd at *
          generalize (((qsplit s.data.toList).2.2 : Nat) : Int) = pl at *
          replace hRl : R.length ≤ 1000000 := by omega
          replace hRl := Lib.hid hRl
          replace hRl := hRl.out
          replace L1 := Lib.hid L1
          replace L2 := Lib.hid L2
          replace Q1 := Lib.hid Q1
          replace Q2 := Lib.hid Q2
          replace hqc := Lib.hid hqc
          cases b
          · clear hback hsp
            go_wp2_with fail
            refine (L1.out _ (Below.refl _ _)).mono ?_; rintro e w1 ⟨rfl, hb1⟩
            go_wp2_with fail
            refine (L2.out _ hb1).mono ?_; rintro e w2 ⟨rfl, hb2⟩
            have hb02 := Below.next_ hb1 hb2
            clear hb1 hb2
            go_wp2_with fail
            refine (Q1.out _ hb02).mono ?_; rintro e w5 ⟨A5, c5, v5, rfl, hl5, hv5, hb5⟩
            have hb05 := Below.next_ hb02 hb5
            replace hl5 := Lib.hid hl5
            replace hv5 := Lib.hid hv5
            clear hb5
            go_wp2_with fail
            refine (Q2.out _).mono ?_; rintro e w6 ⟨A6, c6, rfl, hl6, hb6⟩
            have hb06 := Below.next_ hb05 hb6
            have hSm := refSame_any (c := c5) (c2 := c6) ((hl5.out.below hb6).more hb6.size) hl6 hRl
            have hv6 : TkErr w6 sv v5 pl cd := hv5.out.imp id fun ⟨a, b⟩ => ⟨a, ErrIs.under hb6 b⟩
            replace hSm := Lib.hid hSm
            replace hv6 := Lib.hid hv6
            clear hl5 hv5 hl6 hb6
            go_wp2_with fail
            refine (hSm.out).mono ?_; rintro e w7 ⟨rfl, hb7⟩
            have hb07 := Below.next_ hb06 hb7
            have hv7 : TkErr w7 sv v5 pl cd := hv6.out.imp id fun ⟨a, b⟩ => ⟨a, ErrIs.under hb7 b⟩
            have hW := wrongLaw_any (hSS.out _ hb07) (hTT.out _ hb07) v5 pl cd hv7 hqc.out
            replace hW := Lib.hid hW
            clear hSm hv6 hv7 hb7
            go_wp2_with fail
            refine (hW.out).mono ?_; rintro e w8 ⟨rfl, hb8⟩
            have hb08 := Below.next_ hb07 hb8
            go_wp2_with fail
            refine (hA.out _ hb08).mono ?_; rintro e w9 ⟨rfl, hb9⟩
            go_wp2_with fail
            go_ret
            exact ⟨rfl, Below.next_ hb08 hb9⟩
          · rw [hback rfl] at hsp
            replace hsp := Lib.hid hsp
            replace hback := Lib.hid hback
            go_wp2_with fail
            refine (L1.out _ (Below.refl _ _)).mono ?_; rintro e w1 ⟨rfl, hb1⟩
            go_wp2_with fail
            refine (L2.out _ hb1).mono ?_; rintro e w2 ⟨rfl, hb2⟩
            have hb02 := Below.next_ hb1 hb2
            clear hb1 hb2
            go_wp2_with fail
            refine (L1.out _ hb02).mono ?_; rintro e w3 ⟨rfl, hb3⟩
            have hb03 := Below.next_ hb02 hb3
            go_wp2_with fail
            refine (hsp.out _ hb03).mono ?_; rintro e w4 ⟨A4, c4, v4, rfl, hl4, hv4, hb4⟩
            obtain rfl := tk_nil hv4 rfl
            have hb04 := Below.next_ hb03 hb4
            have hl4 : LL w4 w4.heap.size A4 rows := hl4
            have hSn := refSame_any (c := c) (c2 := c4) ((h.out.below hb04).more hb04.size) hl4 (by omega)
            replace hSn := Lib.hid hSn
            clear hv4 hl4 hb4 hb3
            go_wp2_with fail
            refine (hSn.out).mono ?_; rintro e w10 ⟨rfl, hb10⟩
            have hb11 := Below.next_ hb04 hb10
            clear hSn hb10
            go_wp2_with fail
            refine (Q1.out _ hb11).mono ?_; rintro e w5 ⟨A5, c5, v5, rfl, hl5, hv5, hb5⟩
            have hb05 := Below.next_ hb11 hb5
            replace hl5 := Lib.hid hl5
            replace hv5 := Lib.hid hv5
            clear hb5
            go_wp2_with fail
            refine (Q2.out _).mono ?_; rintro e w6 ⟨A6, c6, rfl, hl6, hb6⟩
            have hb06 := Below.next_ hb05 hb6
            have hSm := refSame_any (c := c5) (c2 := c6) ((hl5.out.below hb6).more hb6.size) hl6 hRl
            have hv6 : TkErr w6 sv v5 pl cd := hv5.out.imp id fun ⟨a, b⟩ => ⟨a, ErrIs.under hb6 b⟩
            replace hSm := Lib.hid hSm
            replace hv6 := Lib.hid hv6
            clear hl5 hv5 hl6 hb6
            go_wp2_with fail
            refine (hSm.out).mono ?_; rintro e w7 ⟨rfl, hb7⟩
            have hb07 := Below.next_ hb06 hb7
            have hv7 : TkErr w7 sv v5 pl cd := hv6.out.imp id fun ⟨a, b⟩ => ⟨a, ErrIs.under hb7 b⟩
            have hW := wrongLaw_any (hSS.out _ hb07) (hTT.out _ hb07) v5 pl cd hv7 hqc.out
            replace hW := Lib.hid hW
            clear hSm hv6 hv7 hb7
            go_wp2_with fail
            refine (hW.out).mono ?_; rintro e w8 ⟨rfl, hb8⟩
            have hb08 := Below.next_ hb07 hb8
            go_wp2_with fail
            refine (hA.out _ hb08).mono ?_; rintro e w9 ⟨rfl, hb9⟩
            go_wp2_with fail
            go_ret
            exact ⟨rfl, Below.next_ hb08 hb9⟩
end Go.Proofs.YtpmnppjiipbonaaDoor
