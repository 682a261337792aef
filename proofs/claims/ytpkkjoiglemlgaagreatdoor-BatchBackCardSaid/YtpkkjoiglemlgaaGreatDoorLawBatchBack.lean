import Derived.Test.YtpkkjoiglemlgaaGreatDoorBtW
import Derived.Test.YtpkkjoiglemlgaaGreatDoorBtY
import Derived.Test.YtpkkjoiglemlgaaGreatDoorBtF
import Derived.Test.YtpkkjoiglemlgaaGreatDoorOpenE
import Derived.Test.YtpkkjoiglemlgaaGreatDoorDHandle
import Derived.Test.YtpkkjoiglemlgaaGreatDoorDWorld
/-
  The walk of BatchParses (layer 13). Where the sentinels and errors.errorType lie.
-/
namespace Go.Proofs.YtpkkjoiglemlgaaGreatDoor
set_option linter.unusedVariables false
open Go.ChangeShapes Go.WideShapes Go.ChangeAt Go.RowKit Go.Extern.Stop Go.Stop Go.Extern

theorem bOk_idx {c : Int} (h : bOk c) : sCode (sIdx c) = c ∧ c ≠ 0 := by
  rcases h with rfl | rfl | rfl | rfl | rfl | rfl <;> decide
/-- The entries that an answer has. -/
def bEnts : Except (Int × List Int) (List Ent) → List Ent
  | .ok l => l
  | .error _ => []
def bCode : Except (Int × List Int) (List Ent) → Int
  | .ok _ => 0
  | .error e => e.1
def bPl : Except (Int × List Int) (List Ent) → List Int
  | .ok _ => []
  | .error e => e.2
theorem bEnt_pl {s : ByteArray} {p : Int} {ids : List (Int × Int)} {e : Int × List Int} (h : bEnt s p ids = .error e) : e.2.length ≤ 2 := by
  unfold bEnt at h
  split at h
  · injection h with h
    subst h
    exact Nat.le_succ _
  · split at h
    · injection h with h
      subst h
      exact Nat.le_succ _
    · split at h
      · injection h with h
        subst h
        simp only
        split <;> simp
      · cases h
theorem bRow_pl {s : ByteArray} : ∀ (k i : Nat) (p : Int) (out : List Ent) (e : Int × List Int), bRow s k i p out = .error e → e.2.length ≤ 3
  | 0, i, p, out, e, h => by rw [bRow] at h; cases h
  | k + 1, i, p, out, e, h => by
    rw [bRow] at h
    split at h
    · rename_i e1 he
      have := bEnt_pl he
      injection h with h
      subst h
      simp only [List.length_cons]
      omega
    · exact bRow_pl k (i + 1) _ _ e h
theorem bParse_pl {s : ByteArray} {e : Int × List Int} (h : bParse s = .error e) : e.2.length ≤ 3 := by
  unfold bParse at h
  split at h
  · injection h with h
    subst h
    simp
  · split at h
    · injection h with h
      subst h
      simp
    · split at h
      · rename_i e1 he
        injection h with h
        subst h
        exact bRow_pl _ _ _ _ _ he
      · split at h
        · injection h with h
          subst h
          exact Nat.le_add_left 1 2
        · cases h
theorem bParse_len {s : ByteArray} {l : List Ent} (h : bParse s = .ok l) : l.length ≤ 16 := by
  unfold bParse at h
  split at h
  · cases h
  · split at h
    · cases h
    · split at h
      · cases h
      · rename_i x hx
        have := bRow_len _ _ _ _ _ hx
        split at h
        · cases h
        · injection h with h
          subst h
          simp at this
          omega
/-- batch.Parse's answer: a row, an error. -/
theorem btParse_uni {w : World} {sv : Nat → Addr} (S : Sent w sv) (T : ETy w) (s : ByteArray) (hs : s.size ≤ 1000000) :
    Calls Tryz.prog 19 #[.string s] w fun e w' => ∃ A c err, e = .returned (.tuple #[.slice A (bEnts (bParse s)).length c, err]) ∧ EntRow w' w.heap.size (.slice A (bEnts (bParse s)).length c) (bEnts (bParse s)) ∧ ((bCode (bParse s) = 0 ∧ err = .nilIface) ∨ (bCode (bParse s) ≠ 0 ∧ ErrIs w' sv err (bPl (bParse s)) (sIdx (bCode (bParse s))))) ∧ Below w.heap.size w w' := by
  refine (btParse_any S T s hs).mono ?_
  rintro e w' ⟨v, err, rfl, hp, hb⟩
  cases h : bParse s with
  | ok l =>
    rw [h] at hp
    obtain ⟨hr, rfl⟩ := hp
    obtain ⟨A, c, rfl⟩ := hr.len
    exact ⟨A, c, _, rfl, hr, .inl ⟨rfl, rfl⟩, hb⟩
  | error er =>
    rw [h] at hp
    obtain ⟨rfl, hE⟩ := hp
    exact ⟨none, 0, err, rfl, EntRow.none_ _ _, .inr ⟨(bOk_idx (bParse_ok h)).2, hE⟩, hb⟩
theorem refBtParse_uni {w : World} (s : ByteArray) (hs : s.size ≤ 1000000) :
    Calls Tryz.prog 20 #[.string s] w fun e w' => ∃ A c B n m, e = .returned (.tuple #[.slice A (bEnts (bParse s)).length c, .agg #[.int .i64 (bCode (bParse s)), .slice B n m]]) ∧ EntRow w' w.heap.size (.slice A (bEnts (bParse s)).length c) (bEnts (bParse s)) ∧ (bCode (bParse s) ≠ 0 → IntRow w' (.slice B n m) (bPl (bParse s))) ∧ Below w.heap.size w w' := by
  refine (refBtParse_any s hs).mono ?_
  rintro e w' ⟨v, wv, rfl, hp, hb⟩
  cases h : bParse s with
  | ok l =>
    rw [h] at hp
    obtain ⟨hr, rfl⟩ := hp
    obtain ⟨A, c, rfl⟩ := hr.len
    exact ⟨A, c, none, 0, 0, rfl, hr.mono (Nat.le_succ _), fun h0 => absurd rfl h0, hb⟩
  | error er =>
    rw [h] at hp
    obtain ⟨rfl, pv, rfl, hI⟩ := hp
    obtain ⟨B, c, rfl, hr⟩ := hI
    exact ⟨none, 0, B, _, c, rfl, EntRow.none_ _ _, fun _ => ⟨B, c, rfl, hr⟩, hb⟩
set_option maxHeartbeats 2000000 in
set_option maxRecDepth 100000 in
theorem batchParses_any {w : World} {sv : Nat → Addr} (S : Sent w sv) (T : ETy w) (s : ByteArray) :
    Calls Tryz.prog 5 #[.string s] w fun e w' => e = .returned (.bool true) ∧ Below w.heap.size w w' := by
  have hAw := fun W (h : Below w.heap.size w W) => awake13_any (S.below h) (T.below h)
  have hP := fun (hs : s.size ≤ 4000) => btParse_uni S T s (by omega)
  have hQ := fun W (hs : s.size ≤ 4000) => refBtParse_uni (w := W) s (by omega)
  have hWr := fun W (h : Below w.heap.size w W) v c A n cp pl hv => wrong13_any (S.below h) (T.below h) v c A n cp pl hv
  have hok : bCode (bParse s) ≠ 0 → sCode (sIdx (bCode (bParse s))) = bCode (bParse s) ∧ (bPl (bParse s)).length ≤ 1000000 := fun h => by
    cases hb : bParse s with
    | ok l => rw [hb] at h; exact absurd rfl h
    | error e => exact ⟨(bOk_idx (bParse_ok hb)).1, by have := bParse_pl hb; show e.2.length ≤ _; omega⟩
  have hlen : (bEnts (bParse s)).length ≤ 1000000 := by
    cases hb : bParse s with
    | ok l => have := bParse_len hb; show l.length ≤ _; omega
    | error e => exact Nat.zero_le _
  generalize bParse s = R at *
  replace hAw := Lib.hid hAw
  replace hWr := Lib.hid hWr
  clear S T
  by_cases hn : 4000 < s.size
  · have hd : decide ((4000 : Int) < s.size) = true := decide_eq_true (by omega)
    replace hP := Lib.hid hP
    replace hQ := Lib.hid hQ
    go_enter Tryz.func5, Tryz.ntmps5
    go_wp2_with fail
    refine (hAw.out _ (Below.refl _ _)).mono ?_; rintro e w1 ⟨rfl, hb⟩
    go_wp2_with fail
    go_ret
    exact ⟨rfl, hb⟩
  have hd : decide ((4000 : Int) < s.size) = false := decide_eq_false (by omega)
  replace hP := Lib.hid (hP (by omega))
  replace hQ := Lib.hid fun W => hQ W (by omega)
  go_enter Tryz.func5, Tryz.ntmps5
  go_wp2_with fail
  refine (hP.out).mono ?_; rintro e w1 ⟨A, c, err, rfl, hr1, he, hb1⟩
  replace hr1 := Lib.hid hr1
  replace he := Lib.hid he
  go_wp2_with fail
  refine (hQ.out _).mono ?_; rintro e w2 ⟨A2, c2, B, n, m, rfl, hr2, hi, hb2⟩
  have hbX : Below w2.heap.size w2 (w2.alloc (.cells #[.int .i64 (bCode R), .slice B n m] 42)) := (Below.refl _ _).alloc (Nat.le_refl _) _
  have BW := Blk.new w2 42 #[.int .i64 (bCode R), .slice B n m]
  have hS := refSameE_any ((hr1.out.below hb2).below hbX).row (hr2.below hbX).row hlen
  rw [eSame_true rfl] at hS
  have hb3 := Below.next_ (Below.next_ hb1 hb2) hbX
  have hw : WrIs (w2.alloc (.cells #[.int .i64 (bCode R), .slice B n m] 42)) sv err (bCode R) (.slice B n m) (bPl R) := by
    rcases he.out with h | ⟨h1, h2⟩
    · exact .inl h
    · exact .inr ⟨h1, (h2.under hb2).under hbX, (hok h1).1, (hi h1).below hbX, (hok h1).2⟩
  replace hS := Lib.hid hS
  replace hw := Lib.hid hw
  replace hb3 := Lib.hid hb3
  replace BW := Lib.hid BW
  clear hbX hr2 hi hb2 hb1 hok
  go_wp2_with fail
  refine (hS.out).mono ?_; rintro e w4 ⟨rfl, hb4⟩
  have hb5 := Below.next_ hb3.out hb4
  have BW4 := BW.out.below hb4 BW.out.lt
  have x0 := BW4.cell 0
  have x1 := BW4.cell 1
  have hw4 : WrIs w4 sv err (bCode R) (.slice B n m) (bPl R) := by
    rcases hw.out with h | ⟨h1, h2, h3, h4, h5⟩
    · exact .inl h
    · exact .inr ⟨h1, h2.under hb4, h3, h4.below hb4, h5⟩
  have hW := hWr.out _ hb5 _ _ _ _ _ _ hw4
  replace hW := Lib.hid hW
  replace hb5 := Lib.hid hb5
  clear hb4 BW4 hw4
  go_wp2_with fail
  refine (hW.out).mono ?_; rintro e w6 ⟨rfl, hb6⟩
  have hb7 := Below.next_ hb5.out hb6
  replace hb7 := Lib.hid hb7
  clear hb6
  go_wp2_with fail
  refine (hAw.out _ hb7.out).mono ?_; rintro e w8 ⟨rfl, hb8⟩
  have hb9 := Below.next_ hb7.out hb8
  go_wp2_with fail
  go_ret
  exact ⟨rfl, hb9⟩
end Go.Proofs.YtpkkjoiglemlgaaGreatDoor

/-
  The walk of BatchBack (layer 13). Where the sentinels and errors.errorType lie.
-/
namespace Go.Proofs.YtpkkjoiglemlgaaGreatDoor
set_option linter.unusedVariables false
open Go.ChangeShapes Go.WideShapes Go.ChangeAt Go.RowKit Go.Extern.Stop Go.Stop Go.Extern

theorem eBytes_size {l : List Ent} (h : eRight l = true) (hf : ∀ x ∈ l, ∀ z ∈ x.op.steps, sFit z) : (bs (eBytes l)).size ≤ 1000000 := by
  have h1 := ePre_len h hf l.length
  unfold ePre at h1
  rw [List.take_length] at h1
  rw [size_bs]
  show (sput l.length ++ l.flatMap entBytes).length ≤ _
  omega
theorem ERow.parts3 {w : World} {v : Value} {l : List Ent} (h : ERow w v l) : ∃ A cap its, v = .slice A l.length cap ∧ its.length = l.length ∧ idsOf its = l.map (·.id) ∧ Reads w w.heap.size 4 A l.length (its.flatMap mk4) ∧ ∀ it ∈ its, OpIs w (.agg #[it.2.1, it.2.2]) it.1.op := by
  obtain ⟨A, cap, its, e, e1, r1, o1⟩ := h
  exact ⟨A, cap, its, e, by rw [← e1]; simp, by rw [← e1]; unfold idsOf; simp, r1, fun it hi => (o1 it hi).1⟩
theorem two_ids {ids : List (Int × Int)} (hn : ids.Nodup) {i k : Nat} {x y : Int × Int} (hx : ids[i]? = some x) (hy : ids[k]? = some y) (hne : i ≠ k) : x ≠ y := fun e => by
  subst e
  have hi := (List.getElem?_eq_some_iff.1 hx).1
  exact hne ((List.getElem?_inj hi hn).1 (hx.trans hy.symm))
theorem ids_its {its : List EItem} {k : Nat} {it : EItem} (h : its[k]? = some it) : (idsOf its)[k]? = some it.1.id := by
  unfold idsOf
  rw [List.getElem?_map, h]; rfl
set_option maxHeartbeats 8000000 in
set_option maxRecDepth 100000 in
theorem batchBack_any {w : World} {sv : Nat → Addr} (S : Sent w sv) (T : ETy w) {v1 : Value} {l1 : List Ent} (h1 : ERow w v1 l1) (m1 : l1.length ≤ maxLen) (i1 : ∀ x ∈ l1, idOk x.id) (f1 : ∀ x ∈ l1, ∀ z ∈ x.op.steps, sFit z) (s : ByteArray) :
    Calls Tryz.prog 7 #[v1, .string s] w fun e w' => e = .returned (.bool true) ∧ Below w.heap.size w w' := by
  have hAw := fun W (h : Below w.heap.size w W) => awake13_any (S.below h) (T.below h)
  have hF1 := few13_any h1 m1
  have hPw := fun (hr : eRight l1 = false) (hn : l1.length ≤ 1000000) W (h : Below w.heap.size w W) => btPrint_wrong (S.below h) (h1.below h) hn hr
  have hPr := fun (hr : eRight l1 = true) W (h : Below w.heap.size w W) => btPrint_right (h1.below h) f1 hr
  have hQ := fun (hr : eRight l1 = true) W (h : Below w.heap.size w W) => btParse_any (S.below h) (T.below h) (bs (eBytes l1)) (eBytes_size hr f1)
  have hback := fun (hr : eRight l1 = true) => bParse_back hr f1
  have hSm := fun (hn : l1.length ≤ 1000000) W (h : Below w.heap.size w W) v (h2 : ERow W v l1) => btSame_any (h1.below h) h2 hn
  have hP2 := fun (hs : s.size ≤ 4000) W (h : Below w.heap.size w W) => btParse_uni (S.below h) (T.below h) s (by omega)
  have hb2 := fun l (h : bParse s = .ok l) => back_bParse h
  have hlen := fun l (h : bParse s = .ok l) => bParse_len h
  have hEr := fun e (h : bParse s = .error e) => (bOk_idx (bParse_ok h)).2
  clear S T h1 f1 i1
  replace hAw := Lib.hid hAw
  replace hF1 := Lib.hid hF1
  replace hPw := Lib.hid hPw
  replace hPr := Lib.hid hPr
  replace hQ := Lib.hid hQ
  replace hback := Lib.hid hback
  replace hSm := Lib.hid hSm
  replace hP2 := Lib.hid hP2
  replace hb2 := Lib.hid hb2
  replace hlen := Lib.hid hlen
  replace hEr := Lib.hid hEr
  obtain ⟨r, hr⟩ : ∃ r, eRight l1 = r := ⟨_, rfl⟩
  replace hr := Lib.hid hr
  obtain ⟨R, hR⟩ : ∃ R, bParse s = R := ⟨_, rfl⟩
  go_enter Tryz.func7, Tryz.ntmps7
  go_wp2_with fail
  refine (hF1.out).mono ?_; rintro e w1 ⟨b1, rfl, hb24, hb1⟩
  cases b1
  · clear hb24
    go_wp2_with fail
    refine (hAw.out _ hb1).mono ?_; rintro e w2 ⟨rfl, hb2'⟩
    have hb3 := Below.next_ hb1 hb2'
    go_wp2_with fail
    go_ret
    exact ⟨rfl, hb3⟩
  have hn : l1.length ≤ 1000000 := by have := hb24 rfl; omega
  clear hb24
  by_cases hs4 : 4000 < s.size
  · have hd : decide ((4000 : Int) < s.size) = true := decide_eq_true (by omega)
    go_wp2_with fail
    refine (hAw.out _ hb1).mono ?_; rintro e w2 ⟨rfl, hb2'⟩
    have hb3 := Below.next_ hb1 hb2'
    go_wp2_with fail
    go_ret
    exact ⟨rfl, hb3⟩
  have hd : decide ((4000 : Int) < s.size) = false := decide_eq_false (by omega)
  replace hP2 := Lib.hid (hP2.out (by omega))
  rw [hR] at hP2 hb2 hlen hEr
  replace hR := Lib.hid hR
  replace hb1 := Lib.hid hb1
  cases r
  · replace hPw := Lib.hid (hPw.out hr.out hn)
    clear hPr hQ hback hSm
    go_wp2_with fail
    refine (hPw.out _ hb1.out).mono ?_; rintro e w4 ⟨rfl, hb4⟩
    have q7 := Lib.hid (Below.next_ hb1.out hb4)
    clear hb4
    cases R with
    | error e1 =>
      have hne := hEr.out e1 rfl
      rw [show bEnts (Except.error e1) = [] from rfl, show bCode (Except.error e1) = e1.1 from rfl] at hP2
      replace hP2 := Lib.hid hP2
      replace hne := Lib.hid hne
      clear hb2 hlen hEr
      go_wp2_with fail
      refine (hP2.out _ q7.out).mono ?_; rintro e w8 ⟨A8, c8, err, rfl, _, he, hb8⟩
      obtain ⟨_, hE⟩ := he.resolve_left (fun h => hne.out h.1)
      obtain ⟨ty, u, rfl⟩ := hE.iface
      have q8 := Lib.hid (Below.next_ q7.out hb8)
      clear he hE hb8
      go_wp2_with fail
      refine (hAw.out _ q8.out).mono ?_; rintro e w9 ⟨rfl, hb9⟩
      have hb10 := Below.next_ q8.out hb9
      go_wp2_with fail
      go_ret
      exact ⟨rfl, hb10⟩
    | ok l2 =>
      obtain ⟨her, hes, hfit⟩ := hb2.out l2 rfl
      have hl16 := hlen.out l2 rfl
      have hnd := (eRight_parts her).2.2
      rw [show bEnts (Except.ok l2) = l2 from rfl, show bCode (Except.ok l2) = 0 from rfl] at hP2
      replace hP2 := Lib.hid hP2
      clear hb2 hlen hEr
      go_wp2_with fail
      refine (hP2.out _ q7.out).mono ?_; rintro e w8 ⟨A8, c8, err, rfl, hrow, he, hb8⟩
      obtain ⟨_, rfl⟩ := he.resolve_right (fun h => h.1 rfl)
      have q8 := Lib.hid (Below.next_ q7.out hb8)
      have hE2 := hrow.row
      obtain ⟨A9, c9, its, e9, g1, g2, rr, _⟩ := hE2.parts3
      injection e9 with a1 _ a3
      subst a1 a3
      have hPr2 := fun W (h : Below w8.heap.size w8 W) => btPrint_right (hE2.below h) hfit her
      rw [show strL (eBytes l2) = .string (bs (eBytes l2)) from rfl, hes] at hPr2
      rw [← g2] at hnd
      obtain ⟨n, hn2⟩ : ∃ n, l2.length = n := ⟨_, rfl⟩
      rw [hn2] at rr g1 hl16
      replace hPr2 := Lib.hid hPr2
      replace hnd := Lib.hid hnd
      replace rr := Lib.hid rr
      replace g1 := Lib.hid g1
      replace g2 := Lib.hid g2
      replace her := Lib.hid her
      replace hes := Lib.hid hes
      replace hfit := Lib.hid hfit
      clear hrow he hb8 hE2
      go_wp2_with fail
      go_loopw [11] (fun i wr => ∃ k : Nat, i = .int .i64 k ∧ k ≤ n ∧ Below w8.heap.size w8 wr) (fun i _ => n + 1 - (intOf i).toNat)
      case atStart => exact ⟨0, rfl, Nat.zero_le _, Below.refl _ _⟩
      case round =>
        obtain ⟨k, rfl, hk, hb⟩ := hrel
        by_cases hlt : k < n
        · obtain ⟨ad, it, hAd, hab, hx, hA⟩ := ent_cells rr.out g1.out hlt
          replace hx := Lib.hid (ids_its hx)
          replace hA := Lib.hid hA
          replace hAd := Lib.hid hAd
          go_wp2_with fail
          go_loopw [12] (fun i wq => ∃ j : Nat, i = .int .i64 j ∧ j ≤ k ∧ Below w8.heap.size w8 wq) (fun i _ => k + 1 - (intOf i).toNat)
          case atStart => exact ⟨0, rfl, Nat.zero_le _, hb⟩
          case round =>
            obtain ⟨j, rfl, hj, hbq⟩ := hrel
            by_cases hjk : j < k
            · obtain ⟨ad2, it2, hAd2, hab2, hx2, hB⟩ := ent_cells rr.out g1.out (show j < n by omega)
              have hdiff := two_ids hnd.out hx.out (ids_its hx2) (by omega)
              obtain rfl := hAd.out
              obtain rfl : ad = ad2 := by injection hAd2
              obtain ⟨c0, c1, _, _⟩ := hA.out _ hbq
              obtain ⟨d0, d1, _, _⟩ := hB _ hbq
              obtain ⟨⟨⟨x1, y1⟩, _⟩, _, _⟩ := it
              obtain ⟨⟨⟨x2, y2⟩, _⟩, _, _⟩ := it2
              simp only at c0 c1 d0 d1 hdiff
              have i3 : (0 : Int) ≤ (k : Int) := by omega
              have i4 : (k : Int) < (n : Int) := by omega
              have i5 : (0 : Int) ≤ (j : Int) := by omega
              have i6 : (j : Int) < (n : Int) := by omega
              clear hAd2 hx2 hB
              rcases id_eq_false hdiff with h | ⟨h0, h⟩
              · replace hdiff := Lib.hid hdiff
                go_wp2_with fail
                go_region
                go_wp2_with fail
                go_roundw
                case rel => exact ⟨j + 1, by go_num, by omega, hbq.drew⟩
                case measure => simp [intOf] <;> omega
              · replace hdiff := Lib.hid hdiff
                subst h0
                go_wp2_with fail
                go_region
                go_wp2_with fail
                go_roundw
                case rel => exact ⟨j + 1, by go_num, by omega, hbq.drew⟩
                case measure => simp [intOf] <;> omega
            · obtain rfl : j = k := by omega
              go_wp2_with fail
              go_roundw
              case rel => exact ⟨j + 1, by go_num, by omega, hbq⟩
              case measure => simp [intOf] <;> omega
        · obtain rfl : k = n := by omega
          go_wp2_with fail
          have hPr3 := hPr2.out _ hb; rw [hn2] at hPr3; refine hPr3.mono ?_; rintro e w9 ⟨rfl, hb9⟩
          have q9 := Lib.hid (Below.next_ (Below.next_ q8.out hb) hb9)
          clear hb9
          go_wp2_with fail
          refine (hAw.out _ q9.out).mono ?_; rintro e w10 ⟨rfl, hb10⟩
          have q10 := Below.next_ q9.out hb10
          go_wp2_with fail
          go_ret
          exact ⟨rfl, q10⟩
  · replace hPr := Lib.hid (hPr.out hr.out)
    replace hQ := Lib.hid (hQ.out hr.out)
    replace hback := hback.out hr.out
    rw [hback] at hQ
    replace hback := Lib.hid hback
    replace hSm := Lib.hid (hSm.out hn)
    clear hPw
    go_wp2_with fail
    refine (hPr.out _ hb1.out).mono ?_; rintro e w4 ⟨rfl, hb4⟩
    have q4 := Lib.hid (Below.next_ hb1.out hb4)
    clear hb4
    go_wp2_with fail
    refine (hQ.out _ q4.out).mono ?_; rintro e w5 ⟨v, err, rfl, ⟨hrow, rfl⟩, hb5⟩
    have q5 := Lib.hid (Below.next_ q4.out hb5)
    have hS := hSm.out _ q5.out _ hrow.row
    rw [eSame_true rfl] at hS
    replace hS := Lib.hid hS
    clear hb5 hrow
    go_wp2_with fail
    refine (hS.out).mono ?_; rintro e w6 ⟨rfl, hb6⟩
    have q7 := Lib.hid (Below.next_ q5.out hb6)
    clear hb6
    cases R with
    | error e1 =>
      have hne := hEr.out e1 rfl
      rw [show bEnts (Except.error e1) = [] from rfl, show bCode (Except.error e1) = e1.1 from rfl] at hP2
      replace hP2 := Lib.hid hP2
      replace hne := Lib.hid hne
      clear hb2 hlen hEr
      go_wp2_with fail
      refine (hP2.out _ q7.out).mono ?_; rintro e w8 ⟨A8, c8, err, rfl, _, he, hb8⟩
      obtain ⟨_, hE⟩ := he.resolve_left (fun h => hne.out h.1)
      obtain ⟨ty, u, rfl⟩ := hE.iface
      have q8 := Lib.hid (Below.next_ q7.out hb8)
      clear he hE hb8
      go_wp2_with fail
      refine (hAw.out _ q8.out).mono ?_; rintro e w9 ⟨rfl, hb9⟩
      have hb10 := Below.next_ q8.out hb9
      go_wp2_with fail
      go_ret
      exact ⟨rfl, hb10⟩
    | ok l2 =>
      obtain ⟨her, hes, hfit⟩ := hb2.out l2 rfl
      have hl16 := hlen.out l2 rfl
      have hnd := (eRight_parts her).2.2
      rw [show bEnts (Except.ok l2) = l2 from rfl, show bCode (Except.ok l2) = 0 from rfl] at hP2
      replace hP2 := Lib.hid hP2
      clear hb2 hlen hEr
      go_wp2_with fail
      refine (hP2.out _ q7.out).mono ?_; rintro e w8 ⟨A8, c8, err, rfl, hrow, he, hb8⟩
      obtain ⟨_, rfl⟩ := he.resolve_right (fun h => h.1 rfl)
      have q8 := Lib.hid (Below.next_ q7.out hb8)
      have hE2 := hrow.row
      obtain ⟨A9, c9, its, e9, g1, g2, rr, _⟩ := hE2.parts3
      injection e9 with a1 _ a3
      subst a1 a3
      have hPr2 := fun W (h : Below w8.heap.size w8 W) => btPrint_right (hE2.below h) hfit her
      rw [show strL (eBytes l2) = .string (bs (eBytes l2)) from rfl, hes] at hPr2
      rw [← g2] at hnd
      obtain ⟨n, hn2⟩ : ∃ n, l2.length = n := ⟨_, rfl⟩
      rw [hn2] at rr g1 hl16
      replace hPr2 := Lib.hid hPr2
      replace hnd := Lib.hid hnd
      replace rr := Lib.hid rr
      replace g1 := Lib.hid g1
      replace g2 := Lib.hid g2
      replace her := Lib.hid her
      replace hes := Lib.hid hes
      replace hfit := Lib.hid hfit
      clear hrow he hb8 hE2
      go_wp2_with fail
      go_loopw [11] (fun i wr => ∃ k : Nat, i = .int .i64 k ∧ k ≤ n ∧ Below w8.heap.size w8 wr) (fun i _ => n + 1 - (intOf i).toNat)
      case atStart => exact ⟨0, rfl, Nat.zero_le _, Below.refl _ _⟩
      case round =>
        obtain ⟨k, rfl, hk, hb⟩ := hrel
        by_cases hlt : k < n
        · obtain ⟨ad, it, hAd, hab, hx, hA⟩ := ent_cells rr.out g1.out hlt
          replace hx := Lib.hid (ids_its hx)
          replace hA := Lib.hid hA
          replace hAd := Lib.hid hAd
          go_wp2_with fail
          go_loopw [12] (fun i wq => ∃ j : Nat, i = .int .i64 j ∧ j ≤ k ∧ Below w8.heap.size w8 wq) (fun i _ => k + 1 - (intOf i).toNat)
          case atStart => exact ⟨0, rfl, Nat.zero_le _, hb⟩
          case round =>
            obtain ⟨j, rfl, hj, hbq⟩ := hrel
            by_cases hjk : j < k
            · obtain ⟨ad2, it2, hAd2, hab2, hx2, hB⟩ := ent_cells rr.out g1.out (show j < n by omega)
              have hdiff := two_ids hnd.out hx.out (ids_its hx2) (by omega)
              obtain rfl := hAd.out
              obtain rfl : ad = ad2 := by injection hAd2
              obtain ⟨c0, c1, _, _⟩ := hA.out _ hbq
              obtain ⟨d0, d1, _, _⟩ := hB _ hbq
              obtain ⟨⟨⟨x1, y1⟩, _⟩, _, _⟩ := it
              obtain ⟨⟨⟨x2, y2⟩, _⟩, _, _⟩ := it2
              simp only at c0 c1 d0 d1 hdiff
              have i3 : (0 : Int) ≤ (k : Int) := by omega
              have i4 : (k : Int) < (n : Int) := by omega
              have i5 : (0 : Int) ≤ (j : Int) := by omega
              have i6 : (j : Int) < (n : Int) := by omega
              clear hAd2 hx2 hB
              rcases id_eq_false hdiff with h | ⟨h0, h⟩
              · replace hdiff := Lib.hid hdiff
                go_wp2_with fail
                go_region
                go_wp2_with fail
                go_roundw
                case rel => exact ⟨j + 1, by go_num, by omega, hbq.drew⟩
                case measure => simp [intOf] <;> omega
              · replace hdiff := Lib.hid hdiff
                subst h0
                go_wp2_with fail
                go_region
                go_wp2_with fail
                go_roundw
                case rel => exact ⟨j + 1, by go_num, by omega, hbq.drew⟩
                case measure => simp [intOf] <;> omega
            · obtain rfl : j = k := by omega
              go_wp2_with fail
              go_roundw
              case rel => exact ⟨j + 1, by go_num, by omega, hbq⟩
              case measure => simp [intOf] <;> omega
        · obtain rfl : k = n := by omega
          go_wp2_with fail
          have hPr3 := hPr2.out _ hb; rw [hn2] at hPr3; refine hPr3.mono ?_; rintro e w9 ⟨rfl, hb9⟩
          have q9 := Lib.hid (Below.next_ (Below.next_ q8.out hb) hb9)
          clear hb9
          go_wp2_with fail
          refine (hAw.out _ q9.out).mono ?_; rintro e w10 ⟨rfl, hb10⟩
          have q10 := Below.next_ q9.out hb10
          go_wp2_with fail
          go_ret
          exact ⟨rfl, q10⟩
end Go.Proofs.YtpkkjoiglemlgaaGreatDoor

/-
  THE STATEMENT 'BatchBack': the Go function returns true whatever it is given, and its arguments read as before; its card. No condition.
-/
namespace Go.Proofs.YtpkkjoiglemlgaaGreatDoor.batchBack
set_option linter.unusedVariables false
open Go.ChangeShapes Go.WideShapes Go.ChangeAt Go.RowKit
open Go.ChangeMaps (open_string)

theorem own : ownKnob Tryz.prog.godebug = none := by kernel_rfl
theorem laidOut : laidOutB Tryz.prog = true := by kernel_rfl
theorem rows : (Tryz.f7.params.toList.all fun t => Tryz.prog.readableRec t && decide (t < Tryz.prog.types.size)) = true := by kernel_rfl


theorem laid_met (os : Os) : laidMetH Tryz.prog Rows.batchBackRow.laid ((laidWorldT os).forCall (fun _ _ => 0) ⟨#[], #[.slice none 0 0, .string ⟨#[]⟩], []⟩).memory :=
  laidMetH_of_parts (laidMet_of_run' 8 (by kernel_rfl) (by kernel_rfl)) (by kernel_rfl)
theorem reads (os : Os) {H : Type} (enc : TypeId × Value → H) : ∃ places, DataW.whole enc Tryz.prog ((laidWorldT os).forCall (fun _ _ => 0) ⟨#[], #[.slice none 0 0, .string ⟨#[]⟩], []⟩).memory Tryz.f7.params.toList Rows.batchBackSpec.vars false (#[.slice none 0 0, .string ⟨#[]⟩] : Array Value).toList 8 = some ([.nil, .lit (.string [])], [], places) :=
  ⟨[], by kernel_rfl⟩

set_option maxRecDepth 100000 in
theorem lifted (os : Os) (started : os.Started) (H : Type) (enc : TypeId × Value → H) (F : Stop.Interp) :
    ReturnsInHanded {} Tryz.checked os 7 .any ((OpenSpec.ofChange Rows.batchBackSpec).preRow enc Tryz.prog Tryz.f7 Rows.batchBackRow.domain false Rows.batchBackRow.laid) (((OpenSpec.ofChange Rows.batchBackSpec).at F).post enc Tryz.prog Tryz.f7 false true false false) := by
  obtain ⟨places, hx⟩ := reads os enc
  refine door_lift (C := Tryz.checked) own started (by kernel_rfl) Tryz.func7 laidOut
    (rows_of rows) Tryz.underlying4 rfl rfl
    (fun ds hd => by
      obtain ⟨d0, d1, rfl⟩ : ∃ d0 d1, ds = [d0, d1] := by
        match ds, hd with
        | [d0, d1], _ => exact ⟨d0, d1, rfl⟩
      exact ⟨rfl, rfl, rfl⟩)
    (witness_row_atRef (enc := enc) (C := Tryz.checked) false (laidWorldT os) #[.slice none 0 0, .string ⟨#[]⟩] rfl (by kernel_rfl) (by kernel_rfl) (by kernel_rfl)
      (OpenSpec.preRow_of_cond 8 hx (by kernel_rfl) (fun k hk => by cases hk) (by kernel_rfl) (laid_met os))) ?_
  intro W base args ds p hval0 hA0 hlt hL
  have hval : ∀ (j : Nat) t v, Tryz.f7.params[j]? = some t → args[j]? = some v → Value.okWide Tryz.prog W .any base t v := hval0
  have hA : DataW.TrodAll enc Tryz.prog W 0 (fun _ => true) true Tryz.f7.params.toList args.toList ds p := hA0
  have hL1 : laidMet Tryz.prog (sentL ++ []) W ∧ handlesMet Tryz.prog [("errors.errorType", .iface "internal/reflectlite.rtype" (.agg [.ptr (.lit (.string [101, 114, 114, 111, 114]))]))] W := hL
  obtain ⟨sv, S⟩ := sent_of_laid hL1.1
  have T := ety_of_laid hL1.2
  rw [Tryz.params7] at hA hval
  obtain ⟨v0, vs0, d0, ds0, p0, q0, hargs, rfl, rfl, h0, r0⟩ := trodAll_cons hA
  obtain ⟨v1, vs1, d1, ds1, p1, q1, rfl, rfl, rfl, h1, r1⟩ := trodAll_cons r0
  obtain ⟨rfl, rfl, rfl⟩ := trodAll_nil r1
  obtain rfl : args = #[v0, v1] := by cases args; simp_all
  obtain ⟨l0, r0', c0, m0, i0, f0⟩ := open_ents (hval 0 37 v0 rfl rfl) h0 (fun x hx => hlt x (by simp [hx]))
  obtain ⟨s1, rfl, rfl, rfl, w1⟩ := open_string Tryz.underlying9 (hval 1 9 v1 rfl rfl) h1
  exact batchBack_any S T r0' m0 i0 f0 s1

theorem said : Rows.BatchBackSaid :=
  OpenClaim.holds_of_cond 7 Tryz.f7 rfl rfl rfl rfl rfl rfl rfl ⟨rfl, rfl, rfl, rfl, rfl⟩ rfl rfl rfl rfl rfl (by kernel_rfl) Tryz.func7 (by kernel_rfl)
    (of_decide_eq_true (by kernel_rfl)) (by unfold Func.isWrapper; first | (rw [if_pos (by decide +kernel)]; kernel_rfl) | (rw [if_neg (by decide +kernel)]; exact ⟨rfl, rfl⟩))
    (fun os started H enc _ F => by rw [OpenClaim.pre_eq_preRow]; exact lifted os started H enc F)
theorem plain (f : FuncId) (fn : Func) (hf : Tryz.pinned.checked.prog.funcNamed "philtre/philtrelaw13.BatchBack" = some f) (hfn : Tryz.pinned.checked.prog.funcs[f]? = some fn) :
    true = Tryz.pinned.checked.prog.looks [] ∧ ∀ (j : Nat) t, fn.params[j]? = some t → Tryz.pinned.checked.prog.wantsStandIn t = false := by
  obtain rfl : f = 7 := Option.some.inj ((show Tryz.prog.funcNamed "philtre/philtrelaw13.BatchBack" = some 7 by kernel_rfl).symm.trans hf) |>.symm
  obtain rfl : fn = Tryz.f7 := (Option.some.inj (Tryz.func7.symm.trans hfn)).symm
  refine ⟨by kernel_rfl, fun j t ht => ?_⟩
  have h : (Tryz.f7.params.toList.all fun t => !Tryz.prog.wantsStandIn t) = true := by kernel_rfl
  have := List.all_eq_true.1 h t (by simpa using Array.mem_of_getElem? ht)
  show Tryz.prog.wantsStandIn t = false
  simpa using this

theorem proved : Rows.BatchBackCardSaid :=
  Claim7.holds_tied_plain_at .later [] _ _ _ _ said (fun _ h => by cases h) (by kernel_rfl) (fun _ h => by cases h) batchBack_row_tie rfl ⟨rfl, rfl⟩ (by kernel_rfl) rfl plain (by kernel_rfl)
#print axioms proved
end Go.Proofs.YtpkkjoiglemlgaaGreatDoor.batchBack
