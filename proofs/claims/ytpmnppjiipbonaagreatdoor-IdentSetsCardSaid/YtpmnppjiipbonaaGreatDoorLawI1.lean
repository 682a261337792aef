/-
  The walk of IdentSets. Where the sentinels, errors.errorType and the table of powers lie.
-/
import Derived.Test.YtpmnppjiipbonaaGreatDoorIdM
import Derived.Test.YtpmnppjiipbonaaGreatDoorIdF
namespace Go.Proofs.YtpmnppjiipbonaaGreatDoor
set_option linter.unusedVariables false
open Go.ChangeShapes Go.WideShapes Go.ChangeAt Go.RowKit Go.Extern.Stop Go.Stop Go.Extern
open Go.ChangeMaps (setBlock)

theorem addIds_fold_len (l : List (Int × Int)) : ∀ s : List (Int × Int), (l.foldl addIds s).length ≤ s.length + l.length := by
  induction l with
  | nil => intro s; simp
  | cons p l ih =>
    intro s
    have h1 := ih (addIds s p)
    have h2 := addIds_len s p
    simp only [List.foldl_cons, List.length_cons]
    omega
theorem bools_at {w : World} {B n : Nat} {A : Option Addr} {l : List Bool} (h : Reads w B 1 A n (l.map Value.bool)) (hl : l.length = n) {k : Nat} (hk : k < n) :
    ∃ ad q, A = some ad ∧ l[k]? = some q ∧ w.cell? (ad.add k) = some (.bool q) := by
  obtain ⟨ad, h1, _, h3⟩ := h.2 (by omega)
  refine ⟨ad, l[k]'(by omega), h1, List.getElem?_eq_getElem (by omega), h3 k _ ?_⟩
  rw [List.getElem?_map, List.getElem?_eq_getElem (by omega)]
  rfl
set_option maxHeartbeats 4000000 in
set_option maxRecDepth 100000 in
theorem walkI1 {W : World} {sv : Nat → Addr} (S : Sent W sv) (T : ETy W) (htab : PTb W) {A A2 A3 : Option Addr} {n cap n2 cap2 n3 cap3 : Nat} {l l2 : List (Int × Int)} {bl : List Bool}
    (hl : l.length = n) (hr : Reads W W.heap.size 2 A n (l.flatMap idCells)) (hok : ∀ p ∈ l, idOk p) (hl2 : l2.length = n2) (hr2 : Reads W W.heap.size 2 A2 n2 (l2.flatMap idCells)) (hok2 : ∀ p ∈ l2, idOk p) (hl3 : bl.length = n3) (hr3 : Reads W W.heap.size 1 A3 n3 (bl.map Value.bool)) :
    Calls Tryz.prog 5 #[.slice A n cap, .slice A2 n2 cap2, .slice A3 n3 cap3] W fun e w' => e = .returned (.bool true) ∧ Below W.heap.size W w' := by
  have hAw := fun w (h : Below W.heap.size W w) => awake12_any (S.below h) (T.below h) (htab.below h)
  replace hAw := Lib.hid hAw
  clear S T htab
  replace hr := Lib.hid hr
  replace hr2 := Lib.hid hr2
  replace hr3 := Lib.hid hr3
  replace hok := Lib.hid hok
  replace hok2 := Lib.hid hok2
  by_cases hn : 40 < n
  · have hd : decide ((40 : Int) < n) = true := decide_eq_true (by omega)
    go_enter Tryz.func5, Tryz.ntmps5
    go_wp2_with fail
    refine (hAw.out _ (Below.refl _ _)).mono ?_; rintro e w1 ⟨rfl, hb⟩
    go_wp2_with fail
    go_ret
    exact ⟨rfl, hb⟩
  by_cases hn2 : 60 < n2
  · have hd : decide ((40 : Int) < n) = false := decide_eq_false (by omega)
    have hd2 : decide ((60 : Int) < n2) = true := decide_eq_true (by omega)
    go_enter Tryz.func5, Tryz.ntmps5
    go_wp2_with fail
    refine (hAw.out _ (Below.refl _ _)).mono ?_; rintro e w1 ⟨rfl, hb⟩
    go_wp2_with fail
    go_ret
    exact ⟨rfl, hb⟩
  have hOf := setOf_any (cap := cap) hl (by omega) hr.out hok.out
  replace hOf := Lib.hid hOf
  have hd : decide ((40 : Int) < n) = false := decide_eq_false (by omega)
  have hd2 : decide ((60 : Int) < n2) = false := decide_eq_false (by omega)
  go_enter Tryz.func5, Tryz.ntmps5
  go_wp2_with fail
  refine (hOf.out).mono ?_; rintro e w1 ⟨b, rfl, hO, hb1⟩
  have hM0 : Mem12 W ((w1.alloc (.cells #[.map none] 45)).alloc (.cells #[] 23)) b w1.heap.size n (.slice (some ⟨w1.heap.size + 1, 0, none⟩) 0 0) [] (l.foldl addIds []) [] := by
    have hsz := hb1.size
    obtain ⟨F, hI, hF⟩ := hO
    have hA : Below w1.heap.size w1 ((w1.alloc (.cells #[.map none] 45)).alloc (.cells #[] 23)) := ((Below.refl _ _).alloc (Nat.le_refl _) _).alloc (by simp) _
    have B0 := (Blk.new w1 45 #[.map none]).alloc (.cells #[] 23)
    refine ⟨⟨F, fun k => k = w1.heap.size, hI.below hA, ⟨fun k hk => by simp [hk]; omega, rfl, .inl ⟨B0, rfl⟩⟩, hF, fun k hk => by omega, fun k hf hk => absurd (hI.own k hf) (by omega), fun g hg => ?_⟩, ⟨rfl, .inr ⟨w1.heap.size + 1, 0, #[], rfl, by omega, ?_, Nat.le_refl _, Nat.zero_le _, rfl, rfl⟩⟩, Below.next_ hb1 hA⟩
    · injection hg with hg
      simp only at hg
      exact ⟨fun hf => absurd (hI.own g hf) (by omega), by omega⟩
    · have := Blk.new (w1.alloc (.cells #[.map none] 45)) 23 #[]
      rwa [World.size_alloc] at this
  replace hM0 := Lib.hid hM0
  clear hO hb1
  go_wp2_with fail
  go_loopw [9, 10] (fun v i wr => ∃ (k : Nat) (ms : List (Int × Int)), i = .int .i64 k ∧ k ≤ n ∧ Mem12 W wr b w1.heap.size ((n : Int) + k) v ms (l.foldl addIds []) ((l.take k).foldl addIds []) ∧ Alike12 ms ((l.take k).foldl addIds [])) (fun _ i _ => n + 1 - (intOf i).toNat)
  case atStart => exact ⟨0, [], rfl, Nat.zero_le _, by simpa using hM0.out, Alike12.nil⟩
  case round =>
    obtain ⟨k, ms, rfl, hk, hM, ha⟩ := hrel
    have hml : ms.length ≤ k := by
      have h1 := ha.len
      have h2 := addIds_fold_len (l.take k) []
      rw [List.length_take] at h2
      simp at h2
      omega
    by_cases hlt : k < n
    · obtain ⟨ad, x, y, rfl, hab, hx, c0, c1⟩ := ids_at (hr.out.below hM.below) hl hlt
      have hxy : idOk (x, y) := hok.out _ (List.mem_of_getElem? hx)
      have htk : (l.take (k + 1)).foldl addIds [] = addIds ((l.take k).foldl addIds []) (x, y) := by
        rw [List.take_add_one, hx]
        simp
      have hadd := hM.add (by omega) x y
      replace hadd := Lib.hid hadd
      replace ha := Lib.hid ha
      replace htk := Lib.hid htk
      replace hxy := Lib.hid hxy
      replace hM := Lib.hid hM
      replace hx := Lib.hid hx
      go_wp2_with fail
      refine (hadd.out).mono ?_; rintro e w5 ⟨v5, rfl, hM5⟩
      obtain ⟨ad', x', y', had, _, hx', c0, c1⟩ := ids_at (hr.out.below hM5.below) hl hlt
      obtain rfl : ad = ad' := by injection had
      rw [hx.out] at hx'
      injection hx' with hx'
      injection hx' with e1 e2
      subst e1 e2
      clear had
      have haU := hM5.addU (by omega) (by omega) x y hxy.out
      replace haU := Lib.hid haU
      clear hM5
      go_wp2_with fail
      refine (haU.out).mono ?_; rintro e w6 ⟨rfl, hM6⟩
      replace hM6 := Lib.hid hM6
      go_wp2_with fail
      go_roundw
      case rel =>
        refine ⟨k + 1, _, by go_num, by omega, ?_, by rw [htk.out]; exact ha.out.add (x, y)⟩
        rw [htk.out]
        have h6 := hM6.out
        rw [show (n : Int) + ((k + 1 : Nat) : Int) = (n : Int) + (k : Int) + 1 by omega]
        exact h6
      case measure => simp [intOf]; omega
    · obtain rfl : k = n := by omega
      rw [List.take_of_length_le (by omega)] at hM ha
      clear hM0
      generalize hss : l.foldl addIds [] = ss0 at *
      replace ha := Lib.hid ha
      replace hM := Lib.hid hM
      replace hss := Lib.hid hss
      go_wp2_with fail
      go_loopw [9, 11] (fun v i wr => ∃ (j : Nat) (ms ss us : List (Int × Int)), i = .int .i64 j ∧ j ≤ n2 ∧ Mem12 W wr b w1.heap.size (2 * (k : Int) + 2 * j) v ms ss us ∧ Alike12 ms ss ∧ Alike12 ms us ∧ ms.length ≤ k + j) (fun _ i _ => n2 + 1 - (intOf i).toNat)
      case atStart => exact ⟨0, ms, ss0, ss0, rfl, Nat.zero_le _, hM.out.more (by omega), ha.out, ha.out, by omega⟩
      case round =>
        clear hM ha hml
        obtain ⟨j, ms, ss, us, rfl, hj, hM, ha1, ha2, hml⟩ := hrel
        by_cases hlt2 : j < n2
        · obtain ⟨ad, x, y, rfl, hab, hx, c0, c1⟩ := ids_at (hr2.out.below hM.below) hl2 hlt2
          have hxy : idOk (x, y) := hok2.out _ (List.mem_of_getElem? hx)
          obtain ⟨q, hB1⟩ : ∃ q : Bool, decide ((x, y) ∈ ms) = q := ⟨_, rfl⟩
          have hB2 : decide ((x, y) ∈ ss) = q := by rw [← hB1]; exact decide_eq_decide.2 (ha1.mem _).symm
          have hB3 : decide ((x, y) ∈ us) = q := by rw [← hB1]; exact decide_eq_decide.2 (ha2.mem _).symm
          have hH := hM.has (by omega) x y
          rw [hB1] at hH
          replace hH := Lib.hid hH
          replace ha1 := Lib.hid ha1
          replace ha2 := Lib.hid ha2
          replace hB1 := Lib.hid hB1
          replace hB2 := Lib.hid hB2
          replace hB3 := Lib.hid hB3
          replace hxy := Lib.hid hxy
          replace hx := Lib.hid hx
          clear hM
          go_wp2_with fail
          refine (hH.out).mono ?_; rintro e w5 ⟨rfl, hM5⟩
          obtain ⟨ad', x', y', had, _, hx', c0, c1⟩ := ids_at (hr2.out.below hM5.below) hl2 hlt2
          obtain rfl : ad = ad' := by injection had
          rw [hx.out] at hx'
          injection hx' with hx'
          injection hx' with e1 e2
          subst e1 e2
          clear had
          have hS := hM5.hasS x y hxy.out
          rw [hB2.out] at hS
          replace hS := Lib.hid hS
          clear hM5
          go_wp2_with fail
          refine (hS.out).mono ?_; rintro e w6 ⟨rfl, hM6⟩
          obtain ⟨ad', x', y', had, _, hx', c0, c1⟩ := ids_at (hr2.out.below hM6.below) hl2 hlt2
          obtain rfl : ad = ad' := by injection had
          rw [hx.out] at hx'
          injection hx' with hx'
          injection hx' with e1 e2
          subst e1 e2
          clear had
          by_cases hj3 : j < n3
          · obtain ⟨ad3, q3, rfl, hq3, c3⟩ := bools_at (hr3.out.below hM6.below) hl3 hj3
            replace hq3 := Lib.hid hq3
            replace hM6 := Lib.hid hM6
            cases q3
            · cases q
              all_goals
                have hD1 := hM6.out.addS (by omega) (by omega) x y hxy.out
                rw [hB2.out] at hD1
                replace hD1 := Lib.hid hD1
                go_wp2_with fail
                refine (hD1.out).mono ?_; rintro e w7 ⟨rfl, hM7⟩
                obtain ⟨ad', x', y', had, _, hx', c0, c1⟩ := ids_at (hr2.out.below hM7.below) hl2 hlt2
                obtain rfl : ad = ad' := by injection had
                rw [hx.out] at hx'
                injection hx' with hx'
                injection hx' with e1 e2
                subst e1 e2
                clear had
                have hD2 := hM7.addU (by omega) (by omega) x y hxy.out
                rw [hB3.out] at hD2
                replace hD2 := Lib.hid hD2
                clear hM7
                go_wp2_with fail
                refine (hD2.out).mono ?_; rintro e w8 ⟨rfl, hM8⟩
                obtain ⟨ad', x', y', had, _, hx', c0, c1⟩ := ids_at (hr2.out.below hM8.below) hl2 hlt2
                obtain rfl : ad = ad' := by injection had
                rw [hx.out] at hx'
                injection hx' with hx'
                injection hx' with e1 e2
                subst e1 e2
                clear had
                have hD3 := hM8.add (by omega) x y
                replace hD3 := Lib.hid hD3
                clear hM8
                go_wp2_with fail
                refine (hD3.out).mono ?_; rintro e w9 ⟨v9, rfl, hM9⟩
                replace hM9 := Lib.hid hM9
                go_wp2_with fail
                go_roundw
                case rel => exact ⟨j + 1, _, _, _, by go_num, by omega, hM9.out.more (by omega), ha1.out.add (x, y), ha2.out.add (x, y), by have h1 := (ha1.out.add (x, y)).len; have h2 := ha1.out.len; have h3 := addIds_len ss (x, y); omega⟩
                case measure => simp [intOf]; omega
            · cases q
              all_goals
                have hD1 := hM6.out.dropS x y hxy.out
                rw [hB2.out] at hD1
                replace hD1 := Lib.hid hD1
                go_wp2_with fail
                refine (hD1.out).mono ?_; rintro e w7 ⟨rfl, hM7⟩
                obtain ⟨ad', x', y', had, _, hx', c0, c1⟩ := ids_at (hr2.out.below hM7.below) hl2 hlt2
                obtain rfl : ad = ad' := by injection had
                rw [hx.out] at hx'
                injection hx' with hx'
                injection hx' with e1 e2
                subst e1 e2
                clear had
                have hD2 := hM7.dropU x y hxy.out
                rw [hB3.out] at hD2
                replace hD2 := Lib.hid hD2
                clear hM7
                go_wp2_with fail
                refine (hD2.out).mono ?_; rintro e w8 ⟨rfl, hM8⟩
                obtain ⟨ad', x', y', had, _, hx', c0, c1⟩ := ids_at (hr2.out.below hM8.below) hl2 hlt2
                obtain rfl : ad = ad' := by injection had
                rw [hx.out] at hx'
                injection hx' with hx'
                injection hx' with e1 e2
                subst e1 e2
                clear had
                have hD3 := hM8.drop (by omega) x y
                replace hD3 := Lib.hid hD3
                clear hM8
                go_wp2_with fail
                refine (hD3.out).mono ?_; rintro e w9 ⟨v9, rfl, hM9⟩
                replace hM9 := Lib.hid hM9
                go_wp2_with fail
                go_roundw
                case rel => exact ⟨j + 1, _, _, _, by go_num, by omega, hM9.out.more (by omega), ha1.out.drop (x, y), ha2.out.drop (x, y), Nat.le_trans (List.length_filter_le _ _) (by omega)⟩
                case measure => simp [intOf]; omega
          · replace hM6 := Lib.hid hM6
            cases q
            all_goals
              have hD1 := hM6.out.addS (by omega) (by omega) x y hxy.out
              rw [hB2.out] at hD1
              replace hD1 := Lib.hid hD1
              go_wp2_with fail
              refine (hD1.out).mono ?_; rintro e w7 ⟨rfl, hM7⟩
              obtain ⟨ad', x', y', had, _, hx', c0, c1⟩ := ids_at (hr2.out.below hM7.below) hl2 hlt2
              obtain rfl : ad = ad' := by injection had
              rw [hx.out] at hx'
              injection hx' with hx'
              injection hx' with e1 e2
              subst e1 e2
              clear had
              have hD2 := hM7.addU (by omega) (by omega) x y hxy.out
              rw [hB3.out] at hD2
              replace hD2 := Lib.hid hD2
              clear hM7
              go_wp2_with fail
              refine (hD2.out).mono ?_; rintro e w8 ⟨rfl, hM8⟩
              obtain ⟨ad', x', y', had, _, hx', c0, c1⟩ := ids_at (hr2.out.below hM8.below) hl2 hlt2
              obtain rfl : ad = ad' := by injection had
              rw [hx.out] at hx'
              injection hx' with hx'
              injection hx' with e1 e2
              subst e1 e2
              clear had
              have hD3 := hM8.add (by omega) x y
              replace hD3 := Lib.hid hD3
              clear hM8
              go_wp2_with fail
              refine (hD3.out).mono ?_; rintro e w9 ⟨v9, rfl, hM9⟩
              replace hM9 := Lib.hid hM9
              go_wp2_with fail
              go_roundw
              case rel => exact ⟨j + 1, _, _, _, by go_num, by omega, hM9.out.more (by omega), ha1.out.add (x, y), ha2.out.add (x, y), by have h1 := (ha1.out.add (x, y)).len; have h2 := ha1.out.len; have h3 := addIds_len ss (x, y); omega⟩
              case measure => simp [intOf]; omega
        · obtain rfl : j = n2 := by omega
          have hA1 := hM.allS ha1 (by omega)
          replace hA1 := Lib.hid hA1
          replace ha1 := Lib.hid ha1
          replace ha2 := Lib.hid ha2
          clear hM
          go_wp2_with fail
          refine (hA1.out).mono ?_; rintro e w5 ⟨v5, rfl, hM5, hS5⟩
          replace hS5 := Lib.hid hS5
          clear hM5
          go_wp2_with fail
          refine (hS5.out).mono ?_; rintro e w6 ⟨rfl, hM6⟩
          have hA2 := hM6.allU ha2.out (by omega)
          replace hA2 := Lib.hid hA2
          clear hM6
          go_wp2_with fail
          refine (hA2.out).mono ?_; rintro e w7 ⟨v7, rfl, hM7, hS7⟩
          replace hS7 := Lib.hid hS7
          clear hM7
          go_wp2_with fail
          refine (hS7.out).mono ?_; rintro e w8 ⟨rfl, hM8⟩
          have hb8 := hM8.below
          clear hM8
          go_wp2_with fail
          refine (hAw.out _ hb8).mono ?_; rintro e w9 ⟨rfl, hb9⟩
          go_wp2_with fail
          go_ret
          exact ⟨rfl, Below.next_ hb8 hb9⟩
end Go.Proofs.YtpmnppjiipbonaaGreatDoor
