/-
  No cell of these rows narrows 'for every input' (looked for: loops, veiled, ifaces, maps, wideKeys, modest, calm, conditions, laid).
  DERIVED. THE GIVEN ROWS OF THIS SEAT. 8 by the template 'for every input the law returns true; each argument reads behind the call as it read before'; 0 by the template 'total and deterministic' (their statements: YtfelkkbgbgnpaaaTotals.lean).
  GIVEN WITH THE SEED: the statements are not yours to turn. If you find one false, say at which input.
  Laid BY PROGRAM, IN A SANDBOX (cutbox-rows.mjs): the forced cells as the released guide's own fill.sh prints them over the translation fda6f6a1a5611081… (all of the seat's roots in one cut). By AI agents, Wed Nov 11 2026. No macro, syntax, notation, axiom, sorry.
-/
import Derived.Test.YtfelkkbgbgnpaaaChecked
import GoSem.Claim
import GoSem.ClaimJoined
import GoSem.ClaimMapViews
import Derived.JoinedTies
import Derived.KernelRfl
namespace Go.Proofs.Ytfelkkbgbgnpaaa
/- THE CELL 'sum', in the pinned program and in every row, IS THE sha256 OF THE DUMP (.gsa) THAT YtfelkkbgbgnpaaaProg.lean LOADS. Nothing in Lean hashes anything: it is a label: what it is worth is what the hold of that sum in a sandbox is worth. -/
noncomputable def Try.pinned : Pinned := { name := "ytfelkkbgbgnpaaa", sum := "fda6f6a1a5611081635ff2300ae8d74782d448e373ac0cc1d8f59a11693252a2", checked := Try.checked }
namespace Rows
def none {H : Type} : Left H := { results := [], args := [] }

/-- 'philtrelaw26.ReadActs': WHATEVER THE INPUT: true; the input reads as it did. -/
def readActsSpec : ChangeSpec := { name := "readActs", fn := fun _ => fun
  | [d1, d2, d3] => { results := [.lit (.bool true)], args := [d1, d2, d3] }
  | _ => none }
def readActsRow : OpenClaim := { program := "ytfelkkbgbgnpaaa", sum := "fda6f6a1a5611081635ff2300ae8d74782d448e373ac0cc1d8f59a11693252a2", func := "philtre/philtrelaw26.ReadActs", spec := "readActs", unfollowed := true, recurses := true, apart := false }
def ReadActsSaid : Prop := readActsRow.holds Try.pinned (OpenSpec.ofChange readActsSpec)

/-- ITS FALSE NEIGHBOUR: 'it returns false'. Refute it at one input. -/
def readActsWrong : ChangeSpec := { name := "readActs", fn := fun _ => fun
  | [d1, d2, d3] => { results := [.lit (.bool false)], args := [d1, d2, d3] }
  | _ => none }
def ReadActsWrongFalsely : Prop := readActsRow.holds Try.pinned (OpenSpec.ofChange readActsWrong)

/-- 'philtrelaw26.ReadAlone': WHATEVER THE INPUT: true; the input reads as it did. -/
def readAloneSpec : ChangeSpec := { name := "readAlone", fn := fun _ => fun
  | [d1, d2, d3] => { results := [.lit (.bool true)], args := [d1, d2, d3] }
  | _ => none }
def readAloneRow : OpenClaim := { program := "ytfelkkbgbgnpaaa", sum := "fda6f6a1a5611081635ff2300ae8d74782d448e373ac0cc1d8f59a11693252a2", func := "philtre/philtrelaw26.ReadAlone", spec := "readAlone", unfollowed := true, recurses := true, apart := false }
def ReadAloneSaid : Prop := readAloneRow.holds Try.pinned (OpenSpec.ofChange readAloneSpec)

/-- ITS FALSE NEIGHBOUR: 'it returns false'. Refute it at one input. -/
def readAloneWrong : ChangeSpec := { name := "readAlone", fn := fun _ => fun
  | [d1, d2, d3] => { results := [.lit (.bool false)], args := [d1, d2, d3] }
  | _ => none }
def ReadAloneWrongFalsely : Prop := readAloneRow.holds Try.pinned (OpenSpec.ofChange readAloneWrong)

/-- 'philtrelaw26.ReadBound': WHATEVER THE INPUT: true; the input reads as it did. -/
def readBoundSpec : ChangeSpec := { name := "readBound", fn := fun _ => fun
  | [d1, d2, d3] => { results := [.lit (.bool true)], args := [d1, d2, d3] }
  | _ => none }
def readBoundRow : OpenClaim := { program := "ytfelkkbgbgnpaaa", sum := "fda6f6a1a5611081635ff2300ae8d74782d448e373ac0cc1d8f59a11693252a2", func := "philtre/philtrelaw26.ReadBound", spec := "readBound", unfollowed := true, recurses := true, apart := false }
def ReadBoundSaid : Prop := readBoundRow.holds Try.pinned (OpenSpec.ofChange readBoundSpec)

/-- ITS FALSE NEIGHBOUR: 'it returns false'. Refute it at one input. -/
def readBoundWrong : ChangeSpec := { name := "readBound", fn := fun _ => fun
  | [d1, d2, d3] => { results := [.lit (.bool false)], args := [d1, d2, d3] }
  | _ => none }
def ReadBoundWrongFalsely : Prop := readBoundRow.holds Try.pinned (OpenSpec.ofChange readBoundWrong)

/-- 'philtrelaw29.HandActs': WHATEVER THE INPUT: true; the input reads as it did. -/
def handActsSpec : ChangeSpec := { name := "handActs", fn := fun _ => fun
  | [d1, d2, d3] => { results := [.lit (.bool true)], args := [d1, d2, d3] }
  | _ => none }
def handActsRow : OpenClaim := { program := "ytfelkkbgbgnpaaa", sum := "fda6f6a1a5611081635ff2300ae8d74782d448e373ac0cc1d8f59a11693252a2", func := "philtre/philtrelaw29.HandActs", spec := "handActs", unfollowed := true, recurses := true, apart := false }
def HandActsSaid : Prop := handActsRow.holds Try.pinned (OpenSpec.ofChange handActsSpec)

/-- ITS FALSE NEIGHBOUR: 'it returns false'. Refute it at one input. -/
def handActsWrong : ChangeSpec := { name := "handActs", fn := fun _ => fun
  | [d1, d2, d3] => { results := [.lit (.bool false)], args := [d1, d2, d3] }
  | _ => none }
def HandActsWrongFalsely : Prop := handActsRow.holds Try.pinned (OpenSpec.ofChange handActsWrong)

/-- 'philtrelaw29.HandHands': WHATEVER THE INPUT: true; the input reads as it did. -/
def handHandsSpec : ChangeSpec := { name := "handHands", fn := fun _ => fun
  | [d1, d2, d3] => { results := [.lit (.bool true)], args := [d1, d2, d3] }
  | _ => none }
def handHandsRow : OpenClaim := { program := "ytfelkkbgbgnpaaa", sum := "fda6f6a1a5611081635ff2300ae8d74782d448e373ac0cc1d8f59a11693252a2", func := "philtre/philtrelaw29.HandHands", spec := "handHands", unfollowed := true, recurses := true, apart := false }
def HandHandsSaid : Prop := handHandsRow.holds Try.pinned (OpenSpec.ofChange handHandsSpec)

/-- ITS FALSE NEIGHBOUR: 'it returns false'. Refute it at one input. -/
def handHandsWrong : ChangeSpec := { name := "handHands", fn := fun _ => fun
  | [d1, d2, d3] => { results := [.lit (.bool false)], args := [d1, d2, d3] }
  | _ => none }
def HandHandsWrongFalsely : Prop := handHandsRow.holds Try.pinned (OpenSpec.ofChange handHandsWrong)

/-- 'philtrelaw29.HandFull': WHATEVER THE INPUT: true; the input reads as it did. -/
def handFullSpec : ChangeSpec := { name := "handFull", fn := fun _ => fun
  | [d1, d2] => { results := [.lit (.bool true)], args := [d1, d2] }
  | _ => none }
def handFullRow : OpenClaim := { program := "ytfelkkbgbgnpaaa", sum := "fda6f6a1a5611081635ff2300ae8d74782d448e373ac0cc1d8f59a11693252a2", func := "philtre/philtrelaw29.HandFull", spec := "handFull", unfollowed := true, recurses := true, apart := false }
def HandFullSaid : Prop := handFullRow.holds Try.pinned (OpenSpec.ofChange handFullSpec)

/-- ITS FALSE NEIGHBOUR: 'it returns false'. Refute it at one input. -/
def handFullWrong : ChangeSpec := { name := "handFull", fn := fun _ => fun
  | [d1, d2] => { results := [.lit (.bool false)], args := [d1, d2] }
  | _ => none }
def HandFullWrongFalsely : Prop := handFullRow.holds Try.pinned (OpenSpec.ofChange handFullWrong)

/-- 'philtrelaw30.LayHidden': WHATEVER THE INPUT: true; the input reads as it did. -/
def layHiddenSpec : ChangeSpec := { name := "layHidden", fn := fun _ => fun
  | [d1, d2, d3] => { results := [.lit (.bool true)], args := [d1, d2, d3] }
  | _ => none }
def layHiddenRow : OpenClaim := { program := "ytfelkkbgbgnpaaa", sum := "fda6f6a1a5611081635ff2300ae8d74782d448e373ac0cc1d8f59a11693252a2", func := "philtre/philtrelaw30.LayHidden", spec := "layHidden", unfollowed := true, recurses := true, apart := false }
def LayHiddenSaid : Prop := layHiddenRow.holds Try.pinned (OpenSpec.ofChange layHiddenSpec)

/-- ITS FALSE NEIGHBOUR: 'it returns false'. Refute it at one input. -/
def layHiddenWrong : ChangeSpec := { name := "layHidden", fn := fun _ => fun
  | [d1, d2, d3] => { results := [.lit (.bool false)], args := [d1, d2, d3] }
  | _ => none }
def LayHiddenWrongFalsely : Prop := layHiddenRow.holds Try.pinned (OpenSpec.ofChange layHiddenWrong)

/-- 'philtrelaw19.DriveSame': WHATEVER THE INPUT: true; the input reads as it did. -/
def driveSameSpec : ChangeSpec := { name := "driveSame", fn := fun _ => fun
  | [d1, d2] => { results := [.lit (.bool true)], args := [d1, d2] }
  | _ => none }
def driveSameRow : OpenClaim := { program := "ytfelkkbgbgnpaaa", sum := "fda6f6a1a5611081635ff2300ae8d74782d448e373ac0cc1d8f59a11693252a2", func := "philtre/philtrelaw19.DriveSame", spec := "driveSame", unfollowed := true, recurses := true, apart := false }
def DriveSameSaid : Prop := driveSameRow.holds Try.pinned (OpenSpec.ofChange driveSameSpec)

/-- ITS FALSE NEIGHBOUR: 'it returns false'. Refute it at one input. -/
def driveSameWrong : ChangeSpec := { name := "driveSame", fn := fun _ => fun
  | [d1, d2] => { results := [.lit (.bool false)], args := [d1, d2] }
  | _ => none }
def DriveSameWrongFalsely : Prop := driveSameRow.holds Try.pinned (OpenSpec.ofChange driveSameWrong)

/- THE SECOND FORM. 'bulk': how many values and letters a reading holds, each counted each time it is reached (what is shared counts as often as it is met; a slice's spare places count too). A statement '..UptoSaid' is the law's where the arguments, and the package variables that the reading takes, are together of bulk at most 1048576: NARROWER than '..Said'. Prove '..Said' where nothing that the law and all that it calls make is longer than what came in: it says more and counts as full. Else prove '..UptoSaid'. A law counts once. -/
mutual
def uptoBulk {H : Type} : DataW H → Nat
  | .lit (.string bytes) => bytes.length + 1
  | .lit _ => 1
  | .nil => 1
  | .ptr d => uptoBulk d + 1
  | .slice elems spare => uptoBulkAll elems + uptoBulkAll spare + 1
  | .agg parts => uptoBulkAll parts + 1
  | .iface _ d => uptoBulk d + 1
  | .map entries => uptoBulkEntries entries + 1
  | .held _ => 1
def uptoBulkAll {H : Type} : List (DataW H) → Nat
  | [] => 0
  | d :: r => uptoBulk d + uptoBulkAll r
def uptoBulkEntries {H : Type} : List (Lit × DataW H) → Nat
  | [] => 0
  | x :: r => uptoBulkEntry x + uptoBulkEntries r
def uptoBulkEntry {H : Type} : Lit × DataW H → Nat
  | (.string bytes, d) => bytes.length + uptoBulk d + 1
  | (_, d) => uptoBulk d + 1
 end
def uptoSmall : (H : Type) → List (DataW H) → Bool := fun _ ds => decide (uptoBulkAll ds ≤ 1048576)
def OpenSpec.upto (s : _root_.Go.ChangeSpec) : _root_.Go.OpenSpec := { _root_.Go.OpenSpec.ofChange s with cond := some uptoSmall }

/-- 'philtrelaw26.ReadActs', WHERE WHAT IT READS IS OF BULK AT MOST 1048576: true; the input reads as it did. -/
def readActsUptoRow : OpenClaim := { program := "ytfelkkbgbgnpaaa", sum := "fda6f6a1a5611081635ff2300ae8d74782d448e373ac0cc1d8f59a11693252a2", func := "philtre/philtrelaw26.ReadActs", spec := "readActs", unfollowed := true, recurses := true, apart := false, narrowed := true }
def ReadActsUptoSaid : Prop := readActsUptoRow.holds Try.pinned (OpenSpec.upto readActsSpec)

/-- 'philtrelaw26.ReadAlone', WHERE WHAT IT READS IS OF BULK AT MOST 1048576: true; the input reads as it did. -/
def readAloneUptoRow : OpenClaim := { program := "ytfelkkbgbgnpaaa", sum := "fda6f6a1a5611081635ff2300ae8d74782d448e373ac0cc1d8f59a11693252a2", func := "philtre/philtrelaw26.ReadAlone", spec := "readAlone", unfollowed := true, recurses := true, apart := false, narrowed := true }
def ReadAloneUptoSaid : Prop := readAloneUptoRow.holds Try.pinned (OpenSpec.upto readAloneSpec)

/-- 'philtrelaw26.ReadBound', WHERE WHAT IT READS IS OF BULK AT MOST 1048576: true; the input reads as it did. -/
def readBoundUptoRow : OpenClaim := { program := "ytfelkkbgbgnpaaa", sum := "fda6f6a1a5611081635ff2300ae8d74782d448e373ac0cc1d8f59a11693252a2", func := "philtre/philtrelaw26.ReadBound", spec := "readBound", unfollowed := true, recurses := true, apart := false, narrowed := true }
def ReadBoundUptoSaid : Prop := readBoundUptoRow.holds Try.pinned (OpenSpec.upto readBoundSpec)

/-- 'philtrelaw29.HandActs', WHERE WHAT IT READS IS OF BULK AT MOST 1048576: true; the input reads as it did. -/
def handActsUptoRow : OpenClaim := { program := "ytfelkkbgbgnpaaa", sum := "fda6f6a1a5611081635ff2300ae8d74782d448e373ac0cc1d8f59a11693252a2", func := "philtre/philtrelaw29.HandActs", spec := "handActs", unfollowed := true, recurses := true, apart := false, narrowed := true }
def HandActsUptoSaid : Prop := handActsUptoRow.holds Try.pinned (OpenSpec.upto handActsSpec)

/-- 'philtrelaw29.HandHands', WHERE WHAT IT READS IS OF BULK AT MOST 1048576: true; the input reads as it did. -/
def handHandsUptoRow : OpenClaim := { program := "ytfelkkbgbgnpaaa", sum := "fda6f6a1a5611081635ff2300ae8d74782d448e373ac0cc1d8f59a11693252a2", func := "philtre/philtrelaw29.HandHands", spec := "handHands", unfollowed := true, recurses := true, apart := false, narrowed := true }
def HandHandsUptoSaid : Prop := handHandsUptoRow.holds Try.pinned (OpenSpec.upto handHandsSpec)

/-- 'philtrelaw29.HandFull', WHERE WHAT IT READS IS OF BULK AT MOST 1048576: true; the input reads as it did. -/
def handFullUptoRow : OpenClaim := { program := "ytfelkkbgbgnpaaa", sum := "fda6f6a1a5611081635ff2300ae8d74782d448e373ac0cc1d8f59a11693252a2", func := "philtre/philtrelaw29.HandFull", spec := "handFull", unfollowed := true, recurses := true, apart := false, narrowed := true }
def HandFullUptoSaid : Prop := handFullUptoRow.holds Try.pinned (OpenSpec.upto handFullSpec)

/-- 'philtrelaw30.LayHidden', WHERE WHAT IT READS IS OF BULK AT MOST 1048576: true; the input reads as it did. -/
def layHiddenUptoRow : OpenClaim := { program := "ytfelkkbgbgnpaaa", sum := "fda6f6a1a5611081635ff2300ae8d74782d448e373ac0cc1d8f59a11693252a2", func := "philtre/philtrelaw30.LayHidden", spec := "layHidden", unfollowed := true, recurses := true, apart := false, narrowed := true }
def LayHiddenUptoSaid : Prop := layHiddenUptoRow.holds Try.pinned (OpenSpec.upto layHiddenSpec)

/-- 'philtrelaw19.DriveSame', WHERE WHAT IT READS IS OF BULK AT MOST 1048576: true; the input reads as it did. -/
def driveSameUptoRow : OpenClaim := { program := "ytfelkkbgbgnpaaa", sum := "fda6f6a1a5611081635ff2300ae8d74782d448e373ac0cc1d8f59a11693252a2", func := "philtre/philtrelaw19.DriveSame", spec := "driveSame", unfollowed := true, recurses := true, apart := false, narrowed := true }
def DriveSameUptoSaid : Prop := driveSameUptoRow.holds Try.pinned (OpenSpec.upto driveSameSpec)

end Rows
end Go.Proofs.Ytfelkkbgbgnpaaa
