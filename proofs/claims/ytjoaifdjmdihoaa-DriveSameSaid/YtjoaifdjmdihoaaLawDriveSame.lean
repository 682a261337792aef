/-
  THE STATEMENT 'DriveSame': the Go function returns true whatever it is given, and its arguments read as before. No condition.
-/
import Derived.Test.YtjoaifdjmdihoaaDSame
import Derived.Test.YtjoaifdjmdihoaaOpenK
import Derived.Test.YtjoaifdjmdihoaaFrame
namespace Go.Proofs.Ytjoaifdjmdihoaa.driveSame
set_option linter.unusedVariables false
open Go.ChangeShapes Go.WideShapes Go.ChangeAt Go.RowKit
open Go.ChangeMaps (setBlock shut_map_nil open_string shut_string keptBut_setBlock frozen?_setBlock heap_setBlock_same)
open Go.Joins

theorem own : ownKnob Try.prog.godebug = none := by kernel_rfl
theorem laid : laidOutB Try.prog = true := by kernel_rfl
theorem rows : (Try.f5.params.toList.all fun t => Try.prog.readableRec t && decide (t < Try.prog.types.size)) = true := by kernel_rfl
set_option maxRecDepth 100000 in
theorem lifted (os : Os) (started : os.Started) (H : Type) (enc : TypeId × Value → H) :
    ReturnsInHanded {} Try.checked os 5 .any (Rows.driveSameSpec.pre6 enc Try.prog Try.f5 Rows.driveSameRow.domain false) (Rows.driveSameSpec.post enc Try.prog Try.f5 false true false false) := by
  refine law_lift (C := Try.checked) own started (by kernel_rfl) Try.func5 laid
    (rows_of rows) Try.underlying4 rfl rfl
    (fun ds hd => by
      obtain ⟨d0, d1, rfl⟩ : ∃ d0 d1, ds = [d0, d1] := by
        match ds, hd with
        | [d0, d1], _ => exact ⟨d0, d1, rfl⟩
      exact ⟨rfl, rfl, rfl⟩)
    (ChangeSpec.witness6 (enc := enc) (C := Try.checked) false ⟨#[], #[.slice none 0 0, .int .u8 0], []⟩ 8 (by kernel_rfl) (by kernel_rfl) (by kernel_rfl) (by kernel_rfl)) ?_
  intro W base args ds p hval0 hA0 hlt hwt
  have hval : ∀ (j : Nat) t v, Try.f5.params[j]? = some t → args[j]? = some v → Value.okWide Try.prog W .any base t v := hval0
  have hA : DataW.TrodAll enc Try.prog W 0 (fun _ => true) true Try.f5.params.toList args.toList ds p := hA0
  rw [Try.params5] at hA hval
  obtain ⟨v0, vs0, d0, ds0, p0, q0, hargs, rfl, rfl, h0, r0⟩ := trodAll_cons hA
  obtain ⟨v1, vs1, d1, ds1, p1, q1, rfl, rfl, rfl, h1, r1⟩ := trodAll_cons r0
  obtain ⟨rfl, rfl, rfl⟩ := trodAll_nil r1
  obtain rfl : args = #[v0, v1] := by cases args; simp_all
  obtain ⟨A2, len2, cap2, l, rfl, hlc2, hcm2, hzl2, hr2, hok2⟩ := open_list (α := PAct) (fun x => [.int .i64 x.kind, .int .u64 x.block, .int .i64 x.cell, .int .u64 x.old, .int .u64 x.new, .string x.text]) PAct.Ok Try.underlying45 (by kernel_rfl) (by omega) (fun _ => rfl) (fun n cs y hl hy => open_act n cs y hl hy) (hval 0 45 v0 rfl rfl) h0 (fun x hx => hlt x (by simp [hx]))
  obtain ⟨t1, rfl, rfl, rfl, w1⟩ := open_int Try.underlying5 (hval 1 5 v1 rfl rfl) h1
  exact walkSame19 A2 len2 cap2 l hzl2 hok2 (by omega) t1 (bounds_u8 w1) W hr2

theorem over : Rows.driveSameRow.holds Try.pinned (OpenSpec.ofChange Rows.driveSameSpec) :=
  OpenClaim.holds_of_wide 5 Try.f5 rfl rfl rfl rfl rfl rfl rfl ⟨rfl, rfl, rfl, rfl, rfl⟩ rfl rfl rfl rfl rfl (by kernel_rfl) Try.func5 (by kernel_rfl)
    (of_decide_eq_true (by kernel_rfl)) (by unfold Func.isWrapper; first | (rw [if_pos (by decide +kernel)]; kernel_rfl) | (rw [if_neg (by decide +kernel)]; exact ⟨rfl, rfl⟩))
    (fun os started H enc _ => lifted os started H enc)

theorem proved : Rows.DriveSameSaid :=
  over
#print axioms proved
end Go.Proofs.Ytjoaifdjmdihoaa.driveSame
