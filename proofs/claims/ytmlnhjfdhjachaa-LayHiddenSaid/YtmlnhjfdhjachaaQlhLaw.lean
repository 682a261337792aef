import Derived.Test.YtmlnhjfdhjachaaProg
import Derived.Sort.WalkA
import Derived.Sort.WalkA6
import Derived.Sort.WalkC4
import Derived.Lib.Strings
import Derived.Lib.Slices
import Derived.Lib.Small
import Derived.Lib.Walk
import Derived.Lib.BitFns
import Derived.Sort.Walk7
import Derived.Sort.WalkB3
import Derived.Sort.WalkD2
import Derived.Sort.Walk11
import Derived.Sort.Walk13
import Derived.Sort.WalkA14
import Derived.Sort.AssemblyPlain
import Derived.Test.YtmlnhjfdhjachaaQlh23
/-
  THE STATEMENT 'LayHidden': the Go function returns true whatever it is given, and its arguments read as before. No condition.
-/
namespace Go.Proofs.Ytmlnhjfdhjachaa.layHidden
set_option linter.unusedVariables false
open Go.ChangeShapes Go.WideShapes Go.ChangeAt Go.RowKit
open Go.ChangeMaps (setBlock shut_map_nil open_string shut_string keptBut_setBlock frozen?_setBlock heap_setBlock_same)
open Go.Joins

theorem own : ownKnob Try.prog.godebug = none := by kernel_rfl
theorem laid : laidOutB Try.prog = true := by kernel_rfl
theorem rows : (Try.f3.params.toList.all fun t => Try.prog.readableRec t && decide (t < Try.prog.types.size)) = true := by kernel_rfl
set_option maxRecDepth 100000 in
theorem lifted (os : Os) (started : os.Started) (H : Type) (enc : TypeId × Value → H) :
    ReturnsInHanded {} Try.checked os 3 .any (Rows.layHiddenSpec.pre6 enc Try.prog Try.f3 Rows.layHiddenRow.domain false) (Rows.layHiddenSpec.post enc Try.prog Try.f3 false true false false) := by
  refine law_lift (C := Try.checked) own started (by kernel_rfl) Try.func3 laid
    (rows_of rows) Try.underlying4 rfl rfl
    (fun ds hd => by
      obtain ⟨d0, d1, d2, rfl⟩ : ∃ d0 d1 d2, ds = [d0, d1, d2] := by
        match ds, hd with
        | [d0, d1, d2], _ => exact ⟨d0, d1, d2, rfl⟩
      exact ⟨rfl, rfl, rfl⟩)
    (ChangeSpec.witness6 (enc := enc) (C := Try.checked) false ⟨#[], #[.agg #[.int .i64 0, .int .i64 0, .int .i64 0, .int .i64 0, .int .i64 0, .int .u64 0], .slice none 0 0, .slice none 0 0], []⟩ 8 (by kernel_rfl) (by kernel_rfl) (by kernel_rfl) (by kernel_rfl)) ?_
  intro W base args ds p hval0 hA0 hlt hwt
  have hval : ∀ (j : Nat) t v, Try.f3.params[j]? = some t → args[j]? = some v → Value.okWide Try.prog W .any base t v := hval0
  have hA : DataW.TrodAll enc Try.prog W 0 (fun _ => true) true Try.f3.params.toList args.toList ds p := hA0
  rw [Try.params3] at hA hval
  obtain ⟨v0, vs0, d0, ds0, p0, q0, hargs, rfl, rfl, h0, r0⟩ := trodAll_cons hA
  obtain ⟨v1, vs1, d1, ds1, p1, q1, rfl, rfl, rfl, h1, r1⟩ := trodAll_cons r0
  obtain ⟨v2, vs2, d2, ds2, p2, q2, rfl, rfl, rfl, h2, r2⟩ := trodAll_cons r1
  obtain ⟨rfl, rfl, rfl⟩ := trodAll_nil r2
  obtain rfl : args = #[v0, v1, v2] := by cases args; simp_all
  obtain ⟨c, rfl, _, _⟩ := open_config (hval 0 24 v0 rfl rfl) h0
  obtain ⟨A, len, cap, gs, rfl, hlc, hcm, hzl, hr, hok⟩ := open_list (α := PChange) (fun c => [.string c.key, .bool c.has, .string c.value]) (fun c => c.key.size ≤ maxLen ∧ c.value.size ≤ maxLen) Try.underlying25 (by kernel_rfl) (by omega) (fun _ => rfl) (fun n cs y hl hy => open_chg n cs y hl hy) (hval 1 25 v1 rfl rfl) h1 (fun x hx => hlt x (by simp [hx]))
  obtain ⟨A2, len2, cap2, gs2, rfl, hlc2, hcm2, hzl2, hr2, hok2⟩ := open_list (α := PChange) (fun c => [.string c.key, .bool c.has, .string c.value]) (fun c => c.key.size ≤ maxLen ∧ c.value.size ≤ maxLen) Try.underlying25 (by kernel_rfl) (by omega) (fun _ => rfl) (fun n cs y hl hy => open_chg n cs y hl hy) (hval 2 25 v2 rfl rfl) h2 (fun x hx => hlt x (by simp [hx]))
  exact lhWalk30 A A2 len len2 cap cap2 gs gs2 hzl hzl2 (by omega) (by omega) c W hr hr2

theorem over : Rows.layHiddenRow.holds Try.pinned (OpenSpec.ofChange Rows.layHiddenSpec) :=
  OpenClaim.holds_of_wide 3 Try.f3 rfl rfl rfl rfl rfl rfl rfl ⟨rfl, rfl, rfl, rfl, rfl⟩ rfl rfl rfl rfl rfl (by kernel_rfl) Try.func3 (by kernel_rfl)
    (of_decide_eq_true (by kernel_rfl)) (by unfold Func.isWrapper; first | (rw [if_pos (by decide +kernel)]; kernel_rfl) | (rw [if_neg (by decide +kernel)]; exact ⟨rfl, rfl⟩))
    (fun os started H enc _ => lifted os started H enc)

theorem proved : Rows.LayHiddenSaid :=
  over
#print axioms proved
end Go.Proofs.Ytmlnhjfdhjachaa.layHidden
