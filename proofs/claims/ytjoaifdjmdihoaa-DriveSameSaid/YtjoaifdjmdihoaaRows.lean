/-
  No cell of these rows narrows 'for every input' (looked for: loops, veiled, ifaces, maps, wideKeys, modest, calm, conditions, laid).
  DERIVED. THE GIVEN ROWS OF THIS SEAT. 4 by the template 'for every input the law returns true; each argument reads behind the call as it read before'; 0 by the template 'total and deterministic' (their statements: YtjoaifdjmdihoaaTotals.lean).
  GIVEN WITH THE SEED: the statements are not yours to turn. If you find one false, say at which input.
  Laid BY PROGRAM, IN A SANDBOX (cutbox-rows.mjs): the forced cells as the released guide's own fill.sh prints them over the translation 3a6401746879a8f2… (all of the seat's roots in one cut). By AI agents, Wed Nov 11 2026. No macro, syntax, notation, axiom, sorry.
-/
import Derived.Test.YtjoaifdjmdihoaaChecked
import GoSem.Claim
import GoSem.ClaimJoined
import GoSem.ClaimMapViews
import Derived.JoinedTies
import Derived.KernelRfl
namespace Go.Proofs.Ytjoaifdjmdihoaa
/- THE CELL 'sum', in the pinned program and in every row, IS THE sha256 OF THE DUMP (.gsa) THAT YtjoaifdjmdihoaaProg.lean LOADS. Nothing in Lean hashes anything: it is a label: what it is worth is what the hold of that sum in a sandbox is worth. -/
noncomputable def Try.pinned : Pinned := { name := "ytjoaifdjmdihoaa", sum := "3a6401746879a8f28ae90a943fd472a19dd537a3ff9fcdf021685839c9958b28", checked := Try.checked }
namespace Rows
def none {H : Type} : Left H := { results := [], args := [] }

/-- 'philtrelaw17.HeapCopies': WHATEVER THE INPUT: true; the input reads as it did. -/
def heapCopiesSpec : ChangeSpec := { name := "heapCopies", fn := fun _ => fun
  | [d1, d2] => { results := [.lit (.bool true)], args := [d1, d2] }
  | _ => none }
def heapCopiesRow : OpenClaim := { program := "ytjoaifdjmdihoaa", sum := "3a6401746879a8f28ae90a943fd472a19dd537a3ff9fcdf021685839c9958b28", func := "philtre/philtrelaw17.HeapCopies", spec := "heapCopies", recurses := true, apart := false }
def HeapCopiesSaid : Prop := heapCopiesRow.holds Try.pinned (OpenSpec.ofChange heapCopiesSpec)

/-- ITS FALSE NEIGHBOUR: 'it returns false'. Refute it at one input. -/
def heapCopiesWrong : ChangeSpec := { name := "heapCopies", fn := fun _ => fun
  | [d1, d2] => { results := [.lit (.bool false)], args := [d1, d2] }
  | _ => none }
def HeapCopiesWrongFalsely : Prop := heapCopiesRow.holds Try.pinned (OpenSpec.ofChange heapCopiesWrong)

/-- 'philtrelaw17.HeapLives': WHATEVER THE INPUT: true; the input reads as it did. -/
def heapLivesSpec : ChangeSpec := { name := "heapLives", fn := fun _ => fun
  | [d] => { results := [.lit (.bool true)], args := [d] }
  | _ => none }
def heapLivesRow : OpenClaim := { program := "ytjoaifdjmdihoaa", sum := "3a6401746879a8f28ae90a943fd472a19dd537a3ff9fcdf021685839c9958b28", func := "philtre/philtrelaw17.HeapLives", spec := "heapLives", recurses := true, apart := false }
def HeapLivesSaid : Prop := heapLivesRow.holds Try.pinned (OpenSpec.ofChange heapLivesSpec)

/-- ITS FALSE NEIGHBOUR: 'it returns false'. Refute it at one input. -/
def heapLivesWrong : ChangeSpec := { name := "heapLives", fn := fun _ => fun
  | [d] => { results := [.lit (.bool false)], args := [d] }
  | _ => none }
def HeapLivesWrongFalsely : Prop := heapLivesRow.holds Try.pinned (OpenSpec.ofChange heapLivesWrong)

/-- 'philtrelaw19.DriveSame': WHATEVER THE INPUT: true; the input reads as it did. -/
def driveSameSpec : ChangeSpec := { name := "driveSame", fn := fun _ => fun
  | [d1, d2] => { results := [.lit (.bool true)], args := [d1, d2] }
  | _ => none }
def driveSameRow : OpenClaim := { program := "ytjoaifdjmdihoaa", sum := "3a6401746879a8f28ae90a943fd472a19dd537a3ff9fcdf021685839c9958b28", func := "philtre/philtrelaw19.DriveSame", spec := "driveSame", unfollowed := true, recurses := true, apart := false }
def DriveSameSaid : Prop := driveSameRow.holds Try.pinned (OpenSpec.ofChange driveSameSpec)

/-- ITS FALSE NEIGHBOUR: 'it returns false'. Refute it at one input. -/
def driveSameWrong : ChangeSpec := { name := "driveSame", fn := fun _ => fun
  | [d1, d2] => { results := [.lit (.bool false)], args := [d1, d2] }
  | _ => none }
def DriveSameWrongFalsely : Prop := driveSameRow.holds Try.pinned (OpenSpec.ofChange driveSameWrong)

/-- 'philtrelaw22.ShelfMakes': WHATEVER THE INPUT: true; the input reads as it did. -/
def shelfMakesSpec : ChangeSpec := { name := "shelfMakes", fn := fun _ => fun
  | [d1, d2, d3] => { results := [.lit (.bool true)], args := [d1, d2, d3] }
  | _ => none }
def shelfMakesRow : OpenClaim := { program := "ytjoaifdjmdihoaa", sum := "3a6401746879a8f28ae90a943fd472a19dd537a3ff9fcdf021685839c9958b28", func := "philtre/philtrelaw22.ShelfMakes", spec := "shelfMakes", unfollowed := true, recurses := true, apart := false }
def ShelfMakesSaid : Prop := shelfMakesRow.holds Try.pinned (OpenSpec.ofChange shelfMakesSpec)

/-- ITS FALSE NEIGHBOUR: 'it returns false'. Refute it at one input. -/
def shelfMakesWrong : ChangeSpec := { name := "shelfMakes", fn := fun _ => fun
  | [d1, d2, d3] => { results := [.lit (.bool false)], args := [d1, d2, d3] }
  | _ => none }
def ShelfMakesWrongFalsely : Prop := shelfMakesRow.holds Try.pinned (OpenSpec.ofChange shelfMakesWrong)

/- THE SECOND FORM. 'bulk': how many values and letters a reading holds, each counted each time it is reached (what is shared counts as often as it is met; a slice's spare places count too). A statement '..UptoSaid' is the law's where the arguments, and the package variables that the reading takes, are together of bulk at most 1048576: NARROWER than '..Said'. Prove '..Said' where nothing that the law and all that it calls make is longer than what came in: it says more and counts as full. Else prove '..UptoSaid'. A law counts once. -/
mutual
def uptoBulk {H : Type} : DataW H → Nat
  | .lit (.string bytes) => bytes.length + 1
  | .lit _ => 1
  | .nil => 1
  | .ptr d => uptoBulk d + 1
  | .slice elems spare => uptoBulkAll elems + uptoBulkAll spare + 1
  | .agg parts => uptoBulkAll parts + 1
  | .iface _ d => uptoBulk d + 1
  | .map entries => uptoBulkEntries entries + 1
  | .held _ => 1
def uptoBulkAll {H : Type} : List (DataW H) → Nat
  | [] => 0
  | d :: r => uptoBulk d + uptoBulkAll r
def uptoBulkEntries {H : Type} : List (Lit × DataW H) → Nat
  | [] => 0
  | x :: r => uptoBulkEntry x + uptoBulkEntries r
def uptoBulkEntry {H : Type} : Lit × DataW H → Nat
  | (.string bytes, d) => bytes.length + uptoBulk d + 1
  | (_, d) => uptoBulk d + 1
 end
def uptoSmall : (H : Type) → List (DataW H) → Bool := fun _ ds => decide (uptoBulkAll ds ≤ 1048576)
def OpenSpec.upto (s : _root_.Go.ChangeSpec) : _root_.Go.OpenSpec := { _root_.Go.OpenSpec.ofChange s with cond := some uptoSmall }

/-- 'philtrelaw17.HeapCopies', WHERE WHAT IT READS IS OF BULK AT MOST 1048576: true; the input reads as it did. -/
def heapCopiesUptoRow : OpenClaim := { program := "ytjoaifdjmdihoaa", sum := "3a6401746879a8f28ae90a943fd472a19dd537a3ff9fcdf021685839c9958b28", func := "philtre/philtrelaw17.HeapCopies", spec := "heapCopies", recurses := true, apart := false, narrowed := true }
def HeapCopiesUptoSaid : Prop := heapCopiesUptoRow.holds Try.pinned (OpenSpec.upto heapCopiesSpec)

/-- 'philtrelaw17.HeapLives', WHERE WHAT IT READS IS OF BULK AT MOST 1048576: true; the input reads as it did. -/
def heapLivesUptoRow : OpenClaim := { program := "ytjoaifdjmdihoaa", sum := "3a6401746879a8f28ae90a943fd472a19dd537a3ff9fcdf021685839c9958b28", func := "philtre/philtrelaw17.HeapLives", spec := "heapLives", recurses := true, apart := false, narrowed := true }
def HeapLivesUptoSaid : Prop := heapLivesUptoRow.holds Try.pinned (OpenSpec.upto heapLivesSpec)

/-- 'philtrelaw19.DriveSame', WHERE WHAT IT READS IS OF BULK AT MOST 1048576: true; the input reads as it did. -/
def driveSameUptoRow : OpenClaim := { program := "ytjoaifdjmdihoaa", sum := "3a6401746879a8f28ae90a943fd472a19dd537a3ff9fcdf021685839c9958b28", func := "philtre/philtrelaw19.DriveSame", spec := "driveSame", unfollowed := true, recurses := true, apart := false, narrowed := true }
def DriveSameUptoSaid : Prop := driveSameUptoRow.holds Try.pinned (OpenSpec.upto driveSameSpec)

/-- 'philtrelaw22.ShelfMakes', WHERE WHAT IT READS IS OF BULK AT MOST 1048576: true; the input reads as it did. -/
def shelfMakesUptoRow : OpenClaim := { program := "ytjoaifdjmdihoaa", sum := "3a6401746879a8f28ae90a943fd472a19dd537a3ff9fcdf021685839c9958b28", func := "philtre/philtrelaw22.ShelfMakes", spec := "shelfMakes", unfollowed := true, recurses := true, apart := false, narrowed := true }
def ShelfMakesUptoSaid : Prop := shelfMakesUptoRow.holds Try.pinned (OpenSpec.upto shelfMakesSpec)

end Rows
end Go.Proofs.Ytjoaifdjmdihoaa
