/-
  slices.Clone of a row of words. No condition.
-/
import Derived.Test.YtjoaifdjmdihoaaBlocks
import Derived.Lib.SliceRun
namespace Go.Proofs.Ytjoaifdjmdihoaa
set_option linter.unusedVariables false
open Go.ChangeShapes Go.WideShapes Go.ChangeAt Go.RowKit
open Go.ChangeMaps (setBlock)

theorem own_blk {w : World} {base n : Nat} {v : Value} {xs : List Value} (h : w.ownsRow base 32 1 v n xs) (hv : v.ownBlock ≠ none) :
    ∃ g cap ys, v = .slice (some ⟨g, 0, none⟩) n cap ∧ base ≤ g ∧ g < w.heap.size ∧ n ≤ cap ∧ cap ≤ maxLen ∧ Blk w g 32 (xs ++ ys).toArray := by
  rcases h.2 with ⟨rfl, _⟩ | ⟨g, cap, cur, rfl, hb, hg, h1, h2, h3, h4⟩
  · exact absurd rfl hv
  · refine ⟨g, cap, cur.toList.drop (n * 1), rfl, hb, (Array.getElem?_eq_some_iff.1 hg).1, h1, h2, ?_⟩
    rw [← h4, List.take_append_drop]
    exact hg
set_option maxRecDepth 100000 in
theorem clone_any {w : World} (A : Addr) (n c : Nat) (xs : List Int) (hn : n ≤ 256) (hr : Reads w w.heap.size 1 (some A) n (xs.map (Value.int .u64))) :
    Calls Try.prog 45 #[.slice (some A) n c] w fun e w' => ∃ g cap ys, e = .returned (.slice (some ⟨g, 0, none⟩) n cap) ∧ w.heap.size ≤ g ∧ g < w'.heap.size ∧ n ≤ cap ∧ cap ≤ maxLen ∧ Blk w' g 32 (xs.map (Value.int .u64) ++ ys).toArray ∧ Below w.heap.size w w' := by
  obtain ⟨i0, hi, hz0', hz1', hz2'⟩ : ∃ i, Try.prog.info? 32 = some i ∧ i.zero = some (.int .u64 0) ∧ i.size = 1 ∧ i.bytes = 8 := ⟨_, rfl, rfl, rfl, rfl⟩
  have hown : (w.alloc (.cells #[] 32)).ownsRow w.heap.size 32 1 (.slice (some ⟨w.heap.size, 0, none⟩) 0 0) 0 [] :=
    ⟨rfl, .inr ⟨w.heap.size, 0, #[], rfl, Nat.le_refl _, Blk.new w 32 #[], Nat.le_refl _, Nat.zero_le _, rfl, rfl⟩⟩
  have hb1 : Below w.heap.size w (w.alloc (.cells #[] 32)) := (Below.refl _ _).alloc (Nat.le_refl _) _
  have hr1 := hr.below hb1
  clear hr
  replace hr1 := Lib.hid hr1
  replace hown := Lib.hid hown
  replace hb1 := Lib.hid hb1
  have hnil : ∀ W, (binOp .eql 37 (.slice (some A) n c) (.slice none 0 0)).run Try.prog W = .ok (.bool false) W := fun W => by have := Lib.run_eql_slice_nil (P := Try.prog) W _ _ (some A) n c 0 0 Try.underlying37; exact this
  go_enter Try.func45, Try.ntmps45
  go_wp2_with (at_builtin; go_loud (refine wpList_append_any _ rfl _ _ 37 rfl w.heap.size 32 i0 (.int .u64 0) 1 8 Try.underlying37 hi hz0' hz1' hz2' rfl (by decide) (.slice (some ⟨w.heap.size, 0, none⟩) 0 0) 0 [] rfl hown.out w.heap.size (some A) n c (xs.map (Value.int .u64)) rfl hr1.out (by simp [Value.oneCell']) (by unfold maxLen; omega) (by omega) (by simp) ?_; intro v' w6 hown6 hgrow hloc; have hb6 := row_below (Nat.le_refl _) hb1.out hown.out hgrow; have hv6 : v'.ownBlock ≠ none := (by rcases hloc with h | h <;> rw [h] <;> simp [Value.ownBlock]); replace hown6 := Lib.hid hown6; clear hgrow hloc; replace hb6 := Lib.hid hb6; replace hv6 := Lib.hid hv6))
  go_wp2_with fail
  go_ret
  have h6 := hown6.out
  rw [Nat.zero_add, List.nil_append] at h6
  obtain ⟨g, cap, ys, rfl, h1, h2, h3, h4, h5⟩ := own_blk h6 hv6.out
  exact ⟨g, cap, ys, rfl, h1, h2, h3, h4, h5, hb6.out⟩
end Go.Proofs.Ytjoaifdjmdihoaa
