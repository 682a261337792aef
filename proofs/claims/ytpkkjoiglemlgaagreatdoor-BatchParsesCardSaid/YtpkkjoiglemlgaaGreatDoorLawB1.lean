/-
  The walk of BatchParses (layer 13). Where the sentinels and errors.errorType lie.
-/
import Derived.Test.YtpkkjoiglemlgaaGreatDoorBtW
namespace Go.Proofs.YtpkkjoiglemlgaaGreatDoor
set_option linter.unusedVariables false
open Go.ChangeShapes Go.WideShapes Go.ChangeAt Go.RowKit Go.Extern.Stop Go.Stop Go.Extern

theorem bOk_idx {c : Int} (h : bOk c) : sCode (sIdx c) = c ∧ c ≠ 0 := by
  rcases h with rfl | rfl | rfl | rfl | rfl | rfl <;> decide
/-- The entries that an answer has. -/
def bEnts : Except (Int × List Int) (List Ent) → List Ent
  | .ok l => l
  | .error _ => []
def bCode : Except (Int × List Int) (List Ent) → Int
  | .ok _ => 0
  | .error e => e.1
def bPl : Except (Int × List Int) (List Ent) → List Int
  | .ok _ => []
  | .error e => e.2
theorem bEnt_pl {s : ByteArray} {p : Int} {ids : List (Int × Int)} {e : Int × List Int} (h : bEnt s p ids = .error e) : e.2.length ≤ 2 := by
  unfold bEnt at h
  split at h
  · injection h with h
    subst h
    exact Nat.le_succ _
  · split at h
    · injection h with h
      subst h
      exact Nat.le_succ _
    · split at h
      · injection h with h
        subst h
        simp only
        split <;> simp
      · cases h
theorem bRow_pl {s : ByteArray} : ∀ (k i : Nat) (p : Int) (out : List Ent) (e : Int × List Int), bRow s k i p out = .error e → e.2.length ≤ 3
  | 0, i, p, out, e, h => by rw [bRow] at h; cases h
  | k + 1, i, p, out, e, h => by
    rw [bRow] at h
    split at h
    · rename_i e1 he
      have := bEnt_pl he
      injection h with h
      subst h
      simp only [List.length_cons]
      omega
    · exact bRow_pl k (i + 1) _ _ e h
theorem bParse_pl {s : ByteArray} {e : Int × List Int} (h : bParse s = .error e) : e.2.length ≤ 3 := by
  unfold bParse at h
  split at h
  · injection h with h
    subst h
    simp
  · split at h
    · injection h with h
      subst h
      simp
    · split at h
      · rename_i e1 he
        injection h with h
        subst h
        exact bRow_pl _ _ _ _ _ he
      · split at h
        · injection h with h
          subst h
          exact Nat.le_add_left 1 2
        · cases h
theorem bParse_len {s : ByteArray} {l : List Ent} (h : bParse s = .ok l) : l.length ≤ 16 := by
  unfold bParse at h
  split at h
  · cases h
  · split at h
    · cases h
    · split at h
      · cases h
      · rename_i x hx
        have := bRow_len _ _ _ _ _ hx
        split at h
        · cases h
        · injection h with h
          subst h
          simp at this
          omega
/-- batch.Parse's answer: a row, an error. -/
theorem btParse_uni {w : World} {sv : Nat → Addr} (S : Sent w sv) (T : ETy w) (s : ByteArray) (hs : s.size ≤ 1000000) :
    Calls Tryz.prog 19 #[.string s] w fun e w' => ∃ A c err, e = .returned (.tuple #[.slice A (bEnts (bParse s)).length c, err]) ∧ EntRow w' w.heap.size (.slice A (bEnts (bParse s)).length c) (bEnts (bParse s)) ∧ ((bCode (bParse s) = 0 ∧ err = .nilIface) ∨ (bCode (bParse s) ≠ 0 ∧ ErrIs w' sv err (bPl (bParse s)) (sIdx (bCode (bParse s))))) ∧ Below w.heap.size w w' := by
  refine (btParse_any S T s hs).mono ?_
  rintro e w' ⟨v, err, rfl, hp, hb⟩
  cases h : bParse s with
  | ok l =>
    rw [h] at hp
    obtain ⟨hr, rfl⟩ := hp
    obtain ⟨A, c, rfl⟩ := hr.len
    exact ⟨A, c, _, rfl, hr, .inl ⟨rfl, rfl⟩, hb⟩
  | error er =>
    rw [h] at hp
    obtain ⟨rfl, hE⟩ := hp
    exact ⟨none, 0, err, rfl, EntRow.none_ _ _, .inr ⟨(bOk_idx (bParse_ok h)).2, hE⟩, hb⟩
theorem refBtParse_uni {w : World} (s : ByteArray) (hs : s.size ≤ 1000000) :
    Calls Tryz.prog 20 #[.string s] w fun e w' => ∃ A c B n m, e = .returned (.tuple #[.slice A (bEnts (bParse s)).length c, .agg #[.int .i64 (bCode (bParse s)), .slice B n m]]) ∧ EntRow w' w.heap.size (.slice A (bEnts (bParse s)).length c) (bEnts (bParse s)) ∧ (bCode (bParse s) ≠ 0 → IntRow w' (.slice B n m) (bPl (bParse s))) ∧ Below w.heap.size w w' := by
  refine (refBtParse_any s hs).mono ?_
  rintro e w' ⟨v, wv, rfl, hp, hb⟩
  cases h : bParse s with
  | ok l =>
    rw [h] at hp
    obtain ⟨hr, rfl⟩ := hp
    obtain ⟨A, c, rfl⟩ := hr.len
    exact ⟨A, c, none, 0, 0, rfl, hr.mono (Nat.le_succ _), fun h0 => absurd rfl h0, hb⟩
  | error er =>
    rw [h] at hp
    obtain ⟨rfl, pv, rfl, hI⟩ := hp
    obtain ⟨B, c, rfl, hr⟩ := hI
    exact ⟨none, 0, B, _, c, rfl, EntRow.none_ _ _, fun _ => ⟨B, c, rfl, hr⟩, hb⟩
set_option maxHeartbeats 2000000 in
set_option maxRecDepth 100000 in
theorem batchParses_any {w : World} {sv : Nat → Addr} (S : Sent w sv) (T : ETy w) (s : ByteArray) :
    Calls Tryz.prog 5 #[.string s] w fun e w' => e = .returned (.bool true) ∧ Below w.heap.size w w' := by
  have hAw := fun W (h : Below w.heap.size w W) => awake13_any (S.below h) (T.below h)
  have hP := fun (hs : s.size ≤ 4000) => btParse_uni S T s (by omega)
  have hQ := fun W (hs : s.size ≤ 4000) => refBtParse_uni (w := W) s (by omega)
  have hWr := fun W (h : Below w.heap.size w W) v c A n cp pl hv => wrong13_any (S.below h) (T.below h) v c A n cp pl hv
  have hok : bCode (bParse s) ≠ 0 → sCode (sIdx (bCode (bParse s))) = bCode (bParse s) ∧ (bPl (bParse s)).length ≤ 1000000 := fun h => by
    cases hb : bParse s with
    | ok l => rw [hb] at h; exact absurd rfl h
    | error e => exact ⟨(bOk_idx (bParse_ok hb)).1, by have := bParse_pl hb; show e.2.length ≤ _; omega⟩
  have hlen : (bEnts (bParse s)).length ≤ 1000000 := by
    cases hb : bParse s with
    | ok l => have := bParse_len hb; show l.length ≤ _; omega
    | error e => exact Nat.zero_le _
  generalize bParse s = R at *
  replace hAw := Lib.hid hAw
  replace hWr := Lib.hid hWr
  clear S T
  by_cases hn : 4000 < s.size
  · have hd : decide ((4000 : Int) < s.size) = true := decide_eq_true (by omega)
    replace hP := Lib.hid hP
    replace hQ := Lib.hid hQ
    go_enter Tryz.func5, Tryz.ntmps5
    go_wp2_with fail
    refine (hAw.out _ (Below.refl _ _)).mono ?_; rintro e w1 ⟨rfl, hb⟩
    go_wp2_with fail
    go_ret
    exact ⟨rfl, hb⟩
  have hd : decide ((4000 : Int) < s.size) = false := decide_eq_false (by omega)
  replace hP := Lib.hid (hP (by omega))
  replace hQ := Lib.hid fun W => hQ W (by omega)
  go_enter Tryz.func5, Tryz.ntmps5
  go_wp2_with fail
  refine (hP.out).mono ?_; rintro e w1 ⟨A, c, err, rfl, hr1, he, hb1⟩
  replace hr1 := Lib.hid hr1
  replace he := Lib.hid he
  go_wp2_with fail
  refine (hQ.out _).mono ?_; rintro e w2 ⟨A2, c2, B, n, m, rfl, hr2, hi, hb2⟩
  have hbX : Below w2.heap.size w2 (w2.alloc (.cells #[.int .i64 (bCode R), .slice B n m] 42)) := (Below.refl _ _).alloc (Nat.le_refl _) _
  have BW := Blk.new w2 42 #[.int .i64 (bCode R), .slice B n m]
  have hS := refSameE_any ((hr1.out.below hb2).below hbX).row (hr2.below hbX).row hlen
  rw [eSame_true rfl] at hS
  have hb3 := Below.next_ (Below.next_ hb1 hb2) hbX
  have hw : WrIs (w2.alloc (.cells #[.int .i64 (bCode R), .slice B n m] 42)) sv err (bCode R) (.slice B n m) (bPl R) := by
    rcases he.out with h | ⟨h1, h2⟩
    · exact .inl h
    · exact .inr ⟨h1, (h2.under hb2).under hbX, (hok h1).1, (hi h1).below hbX, (hok h1).2⟩
  replace hS := Lib.hid hS
  replace hw := Lib.hid hw
  replace hb3 := Lib.hid hb3
  replace BW := Lib.hid BW
  clear hbX hr2 hi hb2 hb1 hok
  go_wp2_with fail
  refine (hS.out).mono ?_; rintro e w4 ⟨rfl, hb4⟩
  have hb5 := Below.next_ hb3.out hb4
  have BW4 := BW.out.below hb4 BW.out.lt
  have x0 := BW4.cell 0
  have x1 := BW4.cell 1
  have hw4 : WrIs w4 sv err (bCode R) (.slice B n m) (bPl R) := by
    rcases hw.out with h | ⟨h1, h2, h3, h4, h5⟩
    · exact .inl h
    · exact .inr ⟨h1, h2.under hb4, h3, h4.below hb4, h5⟩
  have hW := hWr.out _ hb5 _ _ _ _ _ _ hw4
  replace hW := Lib.hid hW
  replace hb5 := Lib.hid hb5
  clear hb4 BW4 hw4
  go_wp2_with fail
  refine (hW.out).mono ?_; rintro e w6 ⟨rfl, hb6⟩
  have hb7 := Below.next_ hb5.out hb6
  replace hb7 := Lib.hid hb7
  clear hb6
  go_wp2_with fail
  refine (hAw.out _ hb7.out).mono ?_; rintro e w8 ⟨rfl, hb8⟩
  have hb9 := Below.next_ hb7.out hb8
  go_wp2_with fail
  go_ret
  exact ⟨rfl, hb9⟩
end Go.Proofs.YtpkkjoiglemlgaaGreatDoor
