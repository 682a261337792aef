/-
  THE STATEMENT 'HeapKeeps': the Go function returns true whatever it is given, and its arguments read as before. No condition.
-/
import Derived.Test.YtdmdkelmmlinlaaKeep
import Derived.Test.YtdmdkelmmlinlaaOpenK
import Derived.Test.YtdmdkelmmlinlaaFrame
namespace Go.Proofs.Ytdmdkelmmlinlaa.heapKeeps
set_option linter.unusedVariables false
open Go.ChangeShapes Go.WideShapes Go.ChangeAt Go.RowKit
open Go.ChangeMaps (setBlock shut_map_nil open_string shut_string keptBut_setBlock frozen?_setBlock heap_setBlock_same)
open Go.Joins

theorem own : ownKnob Try.prog.godebug = none := by kernel_rfl
theorem laid : laidOutB Try.prog = true := by kernel_rfl
theorem rows : (Try.f4.params.toList.all fun t => Try.prog.readableRec t && decide (t < Try.prog.types.size)) = true := by kernel_rfl
set_option maxRecDepth 100000 in
theorem lifted (os : Os) (started : os.Started) (H : Type) (enc : TypeId × Value → H) :
    ReturnsInHanded {} Try.checked os 4 .any (Rows.heapKeepsSpec.pre6 enc Try.prog Try.f4 Rows.heapKeepsRow.domain false) (Rows.heapKeepsSpec.post enc Try.prog Try.f4 false true false false) := by
  refine law_lift (C := Try.checked) own started (by kernel_rfl) Try.func4 laid
    (rows_of rows) Try.underlying4 rfl rfl
    (fun ds hd => by
      obtain ⟨d0, d1, d2, rfl⟩ : ∃ d0 d1 d2, ds = [d0, d1, d2] := by
        match ds, hd with
        | [d0, d1, d2], _ => exact ⟨d0, d1, d2, rfl⟩
      exact ⟨rfl, rfl, rfl⟩)
    (ChangeSpec.witness6 (enc := enc) (C := Try.checked) false ⟨#[], #[.slice none 0 0, .slice none 0 0, .slice none 0 0], []⟩ 8 (by kernel_rfl) (by kernel_rfl) (by kernel_rfl) (by kernel_rfl)) ?_
  intro W base args ds p hval0 hA0 hlt hwt
  have hval : ∀ (j : Nat) t v, Try.f4.params[j]? = some t → args[j]? = some v → Value.okWide Try.prog W .any base t v := hval0
  have hA : DataW.TrodAll enc Try.prog W 0 (fun _ => true) true Try.f4.params.toList args.toList ds p := hA0
  rw [Try.params4] at hA hval
  obtain ⟨v0, vs0, d0, ds0, p0, q0, hargs, rfl, rfl, h0, r0⟩ := trodAll_cons hA
  obtain ⟨v1, vs1, d1, ds1, p1, q1, rfl, rfl, rfl, h1, r1⟩ := trodAll_cons r0
  obtain ⟨v2, vs2, d2, ds2, p2, q2, rfl, rfl, rfl, h2, r2⟩ := trodAll_cons r1
  obtain ⟨rfl, rfl, rfl⟩ := trodAll_nil r2
  obtain rfl : args = #[v0, v1, v2] := by cases args; simp_all
  obtain ⟨A0, len0, cap0, ns, rfl, hlc0, hcm0, hzl0, hr0, hwf0⟩ := open_ints_list Try.underlying30 Try.underlying5 (by kernel_rfl) (hval 0 30 v0 rfl rfl) h0 (fun x hx => hlt x (by simp [hx]))
  obtain ⟨A1, len1, cap1, ss, rfl, hlc1, hcm1, hzl1, hr1⟩ := open_strings_list Try.underlying31 Try.underlying9 (by kernel_rfl) (hval 1 31 v1 rfl rfl) h1 (fun x hx => hlt x (by simp [hx]))
  obtain ⟨A2, len2, cap2, l, rfl, hlc2, hcm2, hzl2, hr2, hok2⟩ := open_list (α := PAct) (fun x => [.int .i64 x.kind, .int .u64 x.block, .int .i64 x.cell, .int .u64 x.old, .int .u64 x.new, .string x.text]) PAct.Ok Try.underlying32 (by kernel_rfl) (by omega) (fun _ => rfl) (fun n cs y hl hy => open_op n cs y hl hy) (hval 2 32 v2 rfl rfl) h2 (fun x hx => hlt x (by simp [hx]))
  exact walkKeeps A0 A1 A2 len0 len1 len2 cap0 cap1 cap2 ns ss l hzl0 hzl1 hzl2 (fun z hz => bounds_u8 (hwf0 z hz)) hok2 (by omega) (by omega) (by omega) W hr0 hr1 hr2

theorem over : Rows.heapKeepsRow.holds Try.pinned (OpenSpec.ofChange Rows.heapKeepsSpec) :=
  OpenClaim.holds_of_wide 4 Try.f4 rfl rfl rfl rfl rfl rfl rfl ⟨rfl, rfl, rfl, rfl, rfl⟩ rfl rfl rfl rfl rfl (by kernel_rfl) Try.func4 (by kernel_rfl)
    (of_decide_eq_true (by kernel_rfl)) (by unfold Func.isWrapper; first | (rw [if_pos (by decide +kernel)]; kernel_rfl) | (rw [if_neg (by decide +kernel)]; exact ⟨rfl, rfl⟩))
    (fun os started H enc _ => lifted os started H enc)

theorem proved : Rows.HeapKeepsSaid :=
  over
#print axioms proved
end Go.Proofs.Ytdmdkelmmlinlaa.heapKeeps
