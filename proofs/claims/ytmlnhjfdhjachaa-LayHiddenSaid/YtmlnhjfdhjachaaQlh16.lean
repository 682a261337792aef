import Derived.Shelf.Spec.SearchS
import Derived.Shelf.Spec.SlicesInsert
import Derived.Shelf.Spec.SlicesInsertGrow
import Derived.Test.YtmlnhjfdhjachaaProg
/-
  DERIVED: THE SHELF's CONTRACTS AT THIS DUMP, IN PLAIN WORDS (tools/lay-plain.mjs out of 'TryTabs.lean', which tools/lay-shelf.mjs wrote): THE SAME DECLARATIONS UNDER THE SAME NAMES: 'import', 'namespace', 'open', 'def', 'theorem' AND NOTHING ELSE: no command of the shelf's: FOR A HAND-IN. Each laying: the table of numbers ('.._ren') and one theorem, a field a fact of the dump's own or the kernel's comparison; each contract: ONE APPLICATION.
-/
namespace Go.Proofs
open Go.Shelf
def Try.search_ren : Go.Shelf.Ren := ⟨fun | 26 => 104 | 33 => 107 | 34 => 108 | 38 => 111 | n => n, fun | 24 => 177 | 9 => 9 | 3 => 3 | 4 => 4 | 40 => 135 | 0 => 0 | n => n, fun | n => n⟩
theorem Try.search : Go.Proofs.Lays2.n26 Try.prog Try.search_ren := {
  mixed := by kernel_rfl
  f26 := Try.func104.trans (congrArg some (by kernel_rfl))
  f33 := Try.func107.trans (congrArg some (by kernel_rfl))
  f34 := Try.func108.trans (congrArg some (by kernel_rfl))
  f38 := Try.func111.trans (congrArg some (by kernel_rfl))
  t0 := Try.underlying0
  a0 := Try.isAgg0
  z0 := Try.sizeOf0
  v0 := Try.zeroValue0
  t3 := Try.underlying3
  a3 := Try.isAgg3
  z3 := Try.sizeOf3
  v3 := Try.zeroValue3
  t4 := Try.underlying4
  a4 := Try.isAgg4
  z4 := Try.sizeOf4
  v4 := Try.zeroValue4
  t9 := Try.underlying9
  a9 := Try.isAgg9
  z9 := Try.sizeOf9
  v9 := Try.zeroValue9
  t24 := Try.underlying177
  a24 := Try.isAgg177
  z24 := Try.sizeOf177
  v24 := Try.zeroValue177
  t40 := Try.underlying135
  a40 := Try.isAgg135
  z40 := Try.sizeOf135
  v40 := Try.zeroValue135 }
def Try.insert_ren : Go.Shelf.Ren := ⟨fun | 22 => 105 | 29 => 109 | 30 => 110 | 36 => 112 | 17 => 113 | n => n, fun | 24 => 177 | 9 => 9 | 3 => 3 | 4 => 4 | 0 => 0 | n => n, fun | n => n⟩
theorem Try.insert : Go.Proofs.Lays2.n22 Try.prog Try.insert_ren := {
  mixed := by kernel_rfl
  f17 := Try.func113.trans (congrArg some (by kernel_rfl))
  f22 := Try.func105.trans (congrArg some (by kernel_rfl))
  f29 := Try.func109.trans (congrArg some (by kernel_rfl))
  f30 := Try.func110.trans (congrArg some (by kernel_rfl))
  f36 := Try.func112.trans (congrArg some (by kernel_rfl))
  t0 := Try.underlying0
  a0 := Try.isAgg0
  z0 := Try.sizeOf0
  v0 := Try.zeroValue0
  t3 := Try.underlying3
  a3 := Try.isAgg3
  z3 := Try.sizeOf3
  v3 := Try.zeroValue3
  t4 := Try.underlying4
  a4 := Try.isAgg4
  z4 := Try.sizeOf4
  v4 := Try.zeroValue4
  t9 := Try.underlying9
  a9 := Try.isAgg9
  z9 := Try.sizeOf9
  v9 := Try.zeroValue9
  t24 := Try.underlying177
  a24 := Try.isAgg177
  z24 := Try.sizeOf177
  v24 := Try.zeroValue177
  i9 := by kernel_rfl }
end Go.Proofs
