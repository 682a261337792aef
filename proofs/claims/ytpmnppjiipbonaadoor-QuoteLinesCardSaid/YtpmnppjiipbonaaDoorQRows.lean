/-
  quote.rows: a line's words, and whether it is one (layer 4). No condition.
-/
import Derived.Test.YtpmnppjiipbonaaDoorQCut
import Derived.Lib.OthersKept
namespace Go.Proofs.YtpmnppjiipbonaaDoor
set_option linter.unusedVariables false
open Go.RowKit Go.Extern.Stop Go.Stop Go.Extern Go.ChangeShapes

theorem iterPos_at {w : World} {k : Nat} {s : ByteArray} {p : Nat} (h : w.heap[k]? = some (.stringIter s p)) : w.iterPos k = p := by
  simp [World.iterPos, h]
theorem rg_end (b : Bool) : rg b [] = !b := rfl
set_option maxHeartbeats 2000000 in
set_option maxRecDepth 100000 in
theorem rows_any (s : ByteArray) (w : World) (hs : s.size ≤ 1000000) :
    Calls Tryd.prog 44 #[.string s] w fun e w' => ∃ A n k, e = .returned (.tuple #[.slice A n k, .bool (rg true s.data.toList)]) ∧ (rg true s.data.toList = true → n = (spl 32 s.data.toList).length ∧ OwnRow w' w.heap.size (.slice A n k) (spl 32 s.data.toList)) ∧ Below w.heap.size w w' := by
  have hSp := fun W => split1_any s 32 W (by omega)
  have hll := size_list s
  generalize hL : s.data.toList = L at *
  replace hL := Lib.hid hL
  replace hSp := Lib.hid hSp
  generalize spl 32 L = P at *
  go_enter Tryd.func44, Tryd.ntmps44
  go_wp2_with fail
  go_loopw [4] (fun v wr => ∃ (pos r : Nat), wr.heap[w.heap.size]? = some (.stringIter s pos) ∧ pos ≤ s.size ∧ Below w.heap.size w wr ∧ v = .int .i32 r ∧ Hid (rg (decide (r = 32)) (L.drop pos) = rg true L)) (fun _ wr => s.size - wr.iterPos w.heap.size)
  case atStart => exact ⟨0, 32, World.iter_heap w s 0, Nat.zero_le _, (Below.refl _ _).alloc (Nat.le_refl _) _, rfl, rfl⟩
  case round =>
    obtain ⟨pos, r, hit, hpos, hb, rfl, hg⟩ := hrel
    have hpos0 := iterPos_at hit
    by_cases hp : pos < s.size
    · have hnx : ∀ ty, (Instr.next (.pointer (some ⟨w.heap.size, 0, none⟩)) true ty).run Tryd.prog wr = _ := fun ty => Lib.run_next_any_at wr w.heap.size s pos ty hit hp
      have hit2 := Lib.iterAt_heap wr w.heap.size s pos (pos + (Utf8.decode s pos).2) hit
      have hb2 := Lib.below_iterAt hb (k := w.heap.size) (Nat.le_refl _) s (pos + (Utf8.decode s pos).2)
      have hblank := rune_blank s pos hp
      have hskip := rune_skip s pos hp
      rw [hL.out] at hblank hskip
      generalize wr.iterAt w.heap.size s (pos + (Utf8.decode s pos).2) = W1 at *
      generalize (Utf8.decode s pos).1 = c at *
      generalize (Utf8.decode s pos).2 = d at *
      clear hit hb
      by_cases hc : c = 32
      · obtain ⟨rfl, hd⟩ := hblank hc
        subst hc
        clear hskip hblank
        rw [hd] at hg
        replace hd := Lib.hid hd
        by_cases hr : r = 32
        · subst hr
          have er : rg true L = false := hg.out.symm
          replace er := Lib.hid er
          go_wp2_with fail
          refine bodyPost_ret (results_tmp2 Tryd.results44 _ _ _) rfl ?_
          exact ⟨_, _, _, by rw [er.out]; rfl, (fun h => absurd (er.out.symm.trans h) (by decide)), hb2⟩
        · have e : ((r : Int) == 32) = false := beq_eq_false_iff_ne.2 (by omega)
          have hg2 : Hid (rg (decide ((32 : Nat) = 32)) (L.drop (pos + 1)) = rg true L) := by
            rw [show decide (r = 32) = false from decide_eq_false hr] at hg
            exact hg
          go_wp2_with fail
          go_roundw
          case rel => exact ⟨pos + 1, 32, hit2, by omega, hb2, rfl, hg2⟩
          case measure => rw [iterPos_at hit2, hpos0]; omega
      · obtain ⟨h1, h2, h3⟩ := hskip hc
        have e : ((c : Int) == 32) = false := beq_eq_false_iff_ne.2 (by omega)
        have hg2 : Hid (rg (decide (c = 32)) (L.drop (pos + d)) = rg true L) := by
          rw [rg_skip d (L.drop pos) _ h1 (by rw [List.length_drop, hll]; omega) h3, List.drop_drop] at hg
          rw [show decide (c = 32) = false from decide_eq_false hc]
          exact hg
        clear hblank hskip h3
        go_wp2_with fail
        go_roundw
        case rel => exact ⟨pos + d, c, hit2, by omega, hb2, rfl, hg2⟩
        case measure => rw [iterPos_at hit2, hpos0]; omega
    · have hnx : ∀ ty, (Instr.next (.pointer (some ⟨w.heap.size, 0, none⟩)) true ty).run Tryd.prog wr = _ := fun ty => Lib.run_next_end_at wr w.heap.size s pos ty hit hp
      have e : rg true L = !decide (r = 32) := by
        rw [← hg.out, List.drop_eq_nil_of_le (by rw [hll]; omega)]
        rfl
      clear hg
      have hsz := hb.size
      by_cases hr : r = 32
      · subst hr
        have er : rg true L = false := e
        replace er := Lib.hid er
        go_wp2_with fail
        refine (hSp.out _).mono ?_; rintro e w1 ⟨A, k, rfl, hO, hb1⟩
        go_wp2_with fail
        refine bodyPost_ret (results_tmp2 Tryd.results44 _ _ _) rfl ?_
        exact ⟨_, _, _, by rw [er.out]; rfl, (fun h => absurd (er.out.symm.trans h) (by decide)), Below.next_ hb hb1⟩
      · have er : rg true L = true := by rw [e, decide_eq_false hr]; rfl
        have hr' : ((r : Int) != 32) = true := by rw [bne, show ((r : Int) == 32) = false from beq_eq_false_iff_ne.2 (by omega)]; rfl
        replace er := Lib.hid er
        clear e
        go_wp2_with fail
        refine (hSp.out _).mono ?_; rintro e w1 ⟨A, k, rfl, hO, hb1⟩
        go_wp2_with fail
        refine bodyPost_ret (results_tmp2 Tryd.results44 _ _ _) rfl ?_
        refine ⟨_, _, _, by rw [er.out]; rfl, fun _ => ⟨rfl, ?_⟩, Below.next_ hb hb1⟩
        obtain ⟨A', k', e1, h2⟩ := hO
        injection e1 with e2 e3 e4
        subst e2 e4
        exact ⟨_, _, rfl, own_base4 h2 hsz⟩
end Go.Proofs.YtpmnppjiipbonaaDoor
