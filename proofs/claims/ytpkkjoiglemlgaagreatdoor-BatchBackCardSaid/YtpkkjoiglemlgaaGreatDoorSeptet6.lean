/-
  TakeText, and the document's. No condition.
-/
import Derived.Test.YtpkkjoiglemlgaaGreatDoorSeptetP
import Derived.Test.YtpkkjoiglemlgaaGreatDoorPlaces
namespace Go.Proofs.YtpkkjoiglemlgaaGreatDoor
set_option linter.unusedVariables false
open Go.RowKit Go.Extern.Stop Go.Stop Go.Extern Go.ChangeShapes

/-- TakeText's answer. -/
def tkt (s : ByteArray) (p m : Int) : ByteArray × Int × Int :=
  if (tk s p).2.2 ≠ 0 then (ByteArray.empty, 0, (tk s p).2.2)
  else if m < 0 ∨ m < (tk s p).1 then (ByteArray.empty, 0, 3)
  else if (s.size : Int) - (tk s p).2.1 < (tk s p).1 then (ByteArray.empty, 0, 2)
  else (s.extract (tk s p).2.1.toNat ((tk s p).2.1.toNat + (tk s p).1), (tk s p).2.1 + (tk s p).1, 0)
theorem tk_code (s : ByteArray) (p : Int) : (tk s p).2.2 = 0 ∨ (tk s p).2.2 = 1 ∨ (tk s p).2.2 = 2 ∨ (tk s p).2.2 = 3 ∨ (tk s p).2.2 = 4 := by
  unfold tk
  split
  · simp
  · split
    · simp
    · simp only [tkc]
      split
      · simp
      · split
        · simp
        · split
          · simp
          · split <;> simp
set_option maxHeartbeats 1000000 in
theorem takeText_any {w : World} {sv : Nat → Addr} (S : Sent w sv) (s : ByteArray) (p m : Int) (hs : s.size ≤ 1000000) (hm : m ≤ 9223372036854775807) :
    Calls Tryz.prog 156 #[.string s, .int .i64 p, .int .i64 m] w fun e w' => ∃ v, e = .returned (.tuple #[.string (tkt s p m).1, .int .i64 (tkt s p m).2.1, v]) ∧ TkErr w' sv v p (tkt s p m).2.2 ∧ Below w.heap.size w w' := by
  have T := take_any S s p hs
  replace T := Lib.hid T
  have hg : w.cell? ⟨4, 0, none⟩ = some (.iface 242 (.pointer (some (sv 3)))) := S.var 3 (by decide)
  have hgl := cell_lt hg
  unfold tkt
  by_cases hc : (tk s p).2.2 = 0
  · rw [if_neg (by simpa using hc)]
    obtain ⟨a, b, rfl, hb, hab, hbs, hput, hlt⟩ := tk_took hc
    rw [hb, hc] at T
    rw [hb]
    clear hc hput
    generalize (tk s (a : Int)).1 = n at *
    replace hb := Lib.hid hb
    by_cases hm0 : m < 0 ∨ m < n
    · rw [if_pos hm0]
      replace S := Lib.hid S
      have hcase : m < 0 ∨ (0 ≤ m ∧ m < n) := by omega
      clear hm0
      rcases hcase with hm0 | ⟨hm0, hm1⟩
      all_goals
        go_enter Tryz.func156, Tryz.ntmps156
        go_wp2_with fail
        refine (T.out).mono ?_; rintro e w1 ⟨v, rfl, hv, hb1⟩
        obtain rfl : v = .nilIface := by
          rcases hv with ⟨_, h⟩ | ⟨h, _⟩
          · exact h
          · exact absurd rfl h
        clear hv
        have hg1 := (hb1.cell (p := ⟨4, 0, none⟩) hgl).trans hg
        go_wp2_with fail
        refine (is_nil _).mono ?_; rintro e w2 ⟨rfl, rfl⟩
        go_wp2_with fail
        refine (wrong_any (S.out.below hb1) a 3 (by decide)).mono ?_; rintro e w2 ⟨v, rfl, hv, hb2⟩
        go_wp2_with fail
        refine bodyPost_ret (v := .tuple #[.string ByteArray.empty, .int .i64 0, v]) (by simp [results, Tryz.results156, go_sem]; rfl) rfl ⟨v, rfl, .inr ⟨by decide, hv⟩, Below.next_ hb1 hb2⟩
    · rw [if_neg hm0]
      by_cases hsh : (s.size : Int) - b < n
      · rw [if_pos hsh]
        have h0 : 0 ≤ m := by omega
        have h1 : (n : Int) ≤ m := by omega
        clear hm0
        replace S := Lib.hid S
        go_enter Tryz.func156, Tryz.ntmps156
        go_wp2_with fail
        refine (T.out).mono ?_; rintro e w1 ⟨v, rfl, hv, hb1⟩
        obtain rfl : v = .nilIface := by
          rcases hv with ⟨_, h⟩ | ⟨h, _⟩
          · exact h
          · exact absurd rfl h
        clear hv
        have hg1 := (hb1.cell (p := ⟨4, 0, none⟩) hgl).trans hg
        go_wp2_with fail
        refine (is_nil _).mono ?_; rintro e w2 ⟨rfl, rfl⟩
        go_wp2_with fail
        refine (wrong_any (S.out.below hb1) a 2 (by decide)).mono ?_; rintro e w2 ⟨v, rfl, hv, hb2⟩
        go_wp2_with fail
        refine bodyPost_ret (v := .tuple #[.string ByteArray.empty, .int .i64 0, v]) (by simp [results, Tryz.results156, go_sem]; rfl) rfl ⟨v, rfl, .inr ⟨by decide, hv⟩, Below.next_ hb1 hb2⟩
      · rw [if_neg hsh]
        have h0 : 0 ≤ m := by omega
        have h1 : (n : Int) ≤ m := by omega
        have h2 : b + n ≤ s.size := by omega
        clear hm0 hsh
        go_enter Tryz.func156, Tryz.ntmps156
        go_wp2_with fail
        refine (T.out).mono ?_; rintro e w1 ⟨v, rfl, hv, hb1⟩
        obtain rfl : v = .nilIface := by
          rcases hv with ⟨_, h⟩ | ⟨h, _⟩
          · exact h
          · exact absurd rfl h
        clear hv
        have hg1 := (hb1.cell (p := ⟨4, 0, none⟩) hgl).trans hg
        go_wp2_with fail
        refine (is_nil _).mono ?_; rintro e w2 ⟨rfl, rfl⟩
        go_wp2_with fail
        refine bodyPost_ret (v := .tuple #[.string (s.extract b (b + n)), .int .i64 ((b : Int) + n), .nilIface]) (by simp [results, Tryz.results156, go_sem]) rfl ⟨_, rfl, .inl ⟨rfl, rfl⟩, hb1⟩
  · rw [if_pos hc]
    go_enter Tryz.func156, Tryz.ntmps156
    go_wp2_with fail
    refine (T.out).mono ?_; rintro e w1 ⟨v, rfl, hv, hb1⟩
    have hv2 := hv.resolve_left fun h => hc h.1
    clear hv
    obtain ⟨t, u, rfl⟩ := hv2.2.iface
    have hg1 := (hb1.cell (p := ⟨4, 0, none⟩) hgl).trans hg
    have hIs := is_any (S.below hb1) _ _ _ 3 (by decide) hv2.2
    replace hIs := Lib.hid hIs
    replace hv2 := Lib.hid hv2
    replace S := Lib.hid S
    replace hc := Lib.hid hc
    generalize decide (sIdx (tk s p).2.2 = 3) = q at *
    cases q
    all_goals
      go_wp2_with fail
      refine (hIs.out).mono ?_; rintro e w2 ⟨rfl, rfl⟩
      go_wp2_with fail
      refine bodyPost_ret (v := .tuple #[.string ByteArray.empty, .int .i64 0, .iface t u]) (by simp [results, Tryz.results156, go_sem]; rfl) rfl ⟨_, rfl, .inr hv2.out, hb1⟩
theorem refTakeText_any (w : World) (s : ByteArray) (p m : Int) (hs : s.size ≤ 1000000) (hm : m ≤ 9223372036854775807) :
    Calls Tryz.prog 111 #[.string s, .int .i64 p, .int .i64 m] w fun e w' => e = .returned (.tuple #[.string (tkt s p m).1, .int .i64 (tkt s p m).2.1, .int .i64 (tkt s p m).2.2]) ∧ w = w' := by
  have T := refTake_any w s p hs
  replace T := Lib.hid T
  unfold tkt
  by_cases hc : (tk s p).2.2 = 0
  · rw [if_neg (by simpa using hc)]
    obtain ⟨a, b, rfl, hb, hab, hbs, hput, hlt⟩ := tk_took hc
    rw [hb, hc] at T
    rw [hb]
    clear hc hput
    generalize (tk s (a : Int)).1 = n at *
    replace hb := Lib.hid hb
    by_cases hm0 : m < 0 ∨ m < n
    · rw [if_pos hm0]
      have hcase : m < 0 ∨ (0 ≤ m ∧ m < n) := by omega
      clear hm0
      rcases hcase with hm0 | ⟨hm0, hm1⟩
      all_goals
        go_enter Tryz.func111, Tryz.ntmps111
        go_wp2_with fail
        refine (T.out).mono ?_; rintro e w1 ⟨rfl, rfl⟩
        go_wp2_with fail
        exact bodyPost_ret (v := .tuple #[.string ByteArray.empty, .int .i64 0, .int .i64 3]) (by simp [results, Tryz.results111, go_sem]; rfl) rfl ⟨rfl, rfl⟩
    · rw [if_neg hm0]
      have h0 : 0 ≤ m := by omega
      have h1 : (n : Int) ≤ m := by omega
      clear hm0
      by_cases hsh : (s.size : Int) - b < n
      · rw [if_pos hsh]
        go_enter Tryz.func111, Tryz.ntmps111
        go_wp2_with fail
        refine (T.out).mono ?_; rintro e w1 ⟨rfl, rfl⟩
        go_wp2_with fail
        exact bodyPost_ret (v := .tuple #[.string ByteArray.empty, .int .i64 0, .int .i64 2]) (by simp [results, Tryz.results111, go_sem]; rfl) rfl ⟨rfl, rfl⟩
      · rw [if_neg hsh]
        have h2 : b + n ≤ s.size := by omega
        clear hsh
        go_enter Tryz.func111, Tryz.ntmps111
        go_wp2_with fail
        refine (T.out).mono ?_; rintro e w1 ⟨rfl, rfl⟩
        go_wp2_with fail
        exact bodyPost_ret (v := .tuple #[.string (s.extract b (b + n)), .int .i64 ((b : Int) + n), .int .i64 0]) (by simp [results, Tryz.results111, go_sem]) rfl ⟨rfl, rfl⟩
  · rw [if_pos hc]
    generalize (tk s p).2.2 = c at *
    generalize (tk s p).1 = n at *
    generalize (tk s p).2.1 = b at *
    have hc' : (c == 0) = false := by simpa using hc
    have hc'' : (c != 0) = true := by simpa using hc
    clear hc
    go_enter Tryz.func111, Tryz.ntmps111
    go_wp2_with fail
    refine (T.out).mono ?_; rintro e w1 ⟨rfl, rfl⟩
    go_wp2_with fail
    exact bodyPost_ret (v := .tuple #[.string ByteArray.empty, .int .i64 0, .int .i64 c]) (by simp [results, Tryz.results111, go_sem]; rfl) rfl ⟨rfl, rfl⟩
end Go.Proofs.YtpkkjoiglemlgaaGreatDoor
