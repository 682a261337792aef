/-
  No cell of these rows narrows 'for every input' (looked for: loops, veiled, ifaces, maps, wideKeys, modest, calm, conditions, laid).
  DERIVED. THE GIVEN ROWS OF THIS SEAT. 4 by the template 'for every input the law returns true; each argument reads behind the call as it read before'; 0 by the template 'total and deterministic' (their statements: YtmlnhjfdhjachaaGreatTotals.lean).
  GIVEN WITH THE SEED: the statements are not yours to turn. If you find one false, say at which input.
  Laid BY PROGRAM, IN A SANDBOX (cutbox-rows.mjs): the forced cells as the released guide's own fill.sh prints them over the translation 227c1d9229a2bde7… (all of the seat's roots in one cut). By AI agents, Wed Nov 11 2026. No macro, syntax, notation, axiom, sorry.
-/
import Derived.Test.YtmlnhjfdhjachaaGreatChecked
import GoSem.Claim
import GoSem.ClaimJoined
import GoSem.ClaimMapViews
import Derived.JoinedTies
import Derived.KernelRfl
namespace Go.Proofs.YtmlnhjfdhjachaaGreat
/- THE CELL 'sum', in the pinned program and in every row, IS THE sha256 OF THE DUMP (.gsa) THAT YtmlnhjfdhjachaaGreatProg.lean LOADS. Nothing in Lean hashes anything: it is a label: what it is worth is what the hold of that sum in a sandbox is worth. -/
noncomputable def Tryz.pinned : Pinned := { name := "ytmlnhjfdhjachaagreat", sum := "227c1d9229a2bde76394058062c1b4200201a5ea3d6e1815eabe59658c409ee5", checked := Tryz.checked }
namespace Rows
def none {H : Type} : Left H := { results := [], args := [] }

/-- 'philtrelaw27.ViewActs': WHATEVER THE INPUT: true; the input reads as it did. -/
def viewActsSpec : ChangeSpec := { name := "viewActs", fn := fun _ => fun
  | [d1, d2, d3] => { results := [.lit (.bool true)], args := [d1, d2, d3] }
  | _ => none }
def viewActsRow : OpenClaim := { program := "ytmlnhjfdhjachaagreat", sum := "227c1d9229a2bde76394058062c1b4200201a5ea3d6e1815eabe59658c409ee5", func := "philtre/philtrelaw27.ViewActs", spec := "viewActs", inPlace := ["slices.overlaps[string]"], unfollowed := true, recurses := true, apart := false }
def ViewActsSaid : Prop := viewActsRow.holds Tryz.pinned (OpenSpec.ofChange viewActsSpec)

/-- ITS FALSE NEIGHBOUR: 'it returns false'. Refute it at one input. -/
def viewActsWrong : ChangeSpec := { name := "viewActs", fn := fun _ => fun
  | [d1, d2, d3] => { results := [.lit (.bool false)], args := [d1, d2, d3] }
  | _ => none }
def ViewActsWrongFalsely : Prop := viewActsRow.holds Tryz.pinned (OpenSpec.ofChange viewActsWrong)

/-- 'philtrelaw27.ViewReads': WHATEVER THE INPUT: true; the input reads as it did. -/
def viewReadsSpec : ChangeSpec := { name := "viewReads", fn := fun _ => fun
  | [d1, d2, d3] => { results := [.lit (.bool true)], args := [d1, d2, d3] }
  | _ => none }
def viewReadsRow : OpenClaim := { program := "ytmlnhjfdhjachaagreat", sum := "227c1d9229a2bde76394058062c1b4200201a5ea3d6e1815eabe59658c409ee5", func := "philtre/philtrelaw27.ViewReads", spec := "viewReads", unfollowed := true, recurses := true, apart := false }
def ViewReadsSaid : Prop := viewReadsRow.holds Tryz.pinned (OpenSpec.ofChange viewReadsSpec)

/-- ITS FALSE NEIGHBOUR: 'it returns false'. Refute it at one input. -/
def viewReadsWrong : ChangeSpec := { name := "viewReads", fn := fun _ => fun
  | [d1, d2, d3] => { results := [.lit (.bool false)], args := [d1, d2, d3] }
  | _ => none }
def ViewReadsWrongFalsely : Prop := viewReadsRow.holds Tryz.pinned (OpenSpec.ofChange viewReadsWrong)

/-- 'philtrelaw27.ViewAlone': WHATEVER THE INPUT: true; the input reads as it did. -/
def viewAloneSpec : ChangeSpec := { name := "viewAlone", fn := fun _ => fun
  | [d1, d2, d3] => { results := [.lit (.bool true)], args := [d1, d2, d3] }
  | _ => none }
def viewAloneRow : OpenClaim := { program := "ytmlnhjfdhjachaagreat", sum := "227c1d9229a2bde76394058062c1b4200201a5ea3d6e1815eabe59658c409ee5", func := "philtre/philtrelaw27.ViewAlone", spec := "viewAlone", unfollowed := true, recurses := true, apart := false }
def ViewAloneSaid : Prop := viewAloneRow.holds Tryz.pinned (OpenSpec.ofChange viewAloneSpec)

/-- ITS FALSE NEIGHBOUR: 'it returns false'. Refute it at one input. -/
def viewAloneWrong : ChangeSpec := { name := "viewAlone", fn := fun _ => fun
  | [d1, d2, d3] => { results := [.lit (.bool false)], args := [d1, d2, d3] }
  | _ => none }
def ViewAloneWrongFalsely : Prop := viewAloneRow.holds Tryz.pinned (OpenSpec.ofChange viewAloneWrong)

/-- 'philtrelaw30.LayLays': WHATEVER THE INPUT: true; the input reads as it did. -/
def layLaysSpec : ChangeSpec := { name := "layLays", fn := fun _ => fun
  | [d1, d2] => { results := [.lit (.bool true)], args := [d1, d2] }
  | _ => none }
def layLaysRow : OpenClaim := { program := "ytmlnhjfdhjachaagreat", sum := "227c1d9229a2bde76394058062c1b4200201a5ea3d6e1815eabe59658c409ee5", func := "philtre/philtrelaw30.LayLays", spec := "layLays", unfollowed := true, recurses := true, apart := false }
def LayLaysSaid : Prop := layLaysRow.holds Tryz.pinned (OpenSpec.ofChange layLaysSpec)

/-- ITS FALSE NEIGHBOUR: 'it returns false'. Refute it at one input. -/
def layLaysWrong : ChangeSpec := { name := "layLays", fn := fun _ => fun
  | [d1, d2] => { results := [.lit (.bool false)], args := [d1, d2] }
  | _ => none }
def LayLaysWrongFalsely : Prop := layLaysRow.holds Tryz.pinned (OpenSpec.ofChange layLaysWrong)

/- THE SECOND FORM. 'bulk': how many values and letters a reading holds, each counted each time it is reached (what is shared counts as often as it is met; a slice's spare places count too). A statement '..UptoSaid' is the law's where the arguments, and the package variables that the reading takes, are together of bulk at most 1048576: NARROWER than '..Said'. Prove '..Said' where nothing that the law and all that it calls make is longer than what came in: it says more and counts as full. Else prove '..UptoSaid'. A law counts once. -/
mutual
def uptoBulk {H : Type} : DataW H → Nat
  | .lit (.string bytes) => bytes.length + 1
  | .lit _ => 1
  | .nil => 1
  | .ptr d => uptoBulk d + 1
  | .slice elems spare => uptoBulkAll elems + uptoBulkAll spare + 1
  | .agg parts => uptoBulkAll parts + 1
  | .iface _ d => uptoBulk d + 1
  | .map entries => uptoBulkEntries entries + 1
  | .held _ => 1
def uptoBulkAll {H : Type} : List (DataW H) → Nat
  | [] => 0
  | d :: r => uptoBulk d + uptoBulkAll r
def uptoBulkEntries {H : Type} : List (Lit × DataW H) → Nat
  | [] => 0
  | x :: r => uptoBulkEntry x + uptoBulkEntries r
def uptoBulkEntry {H : Type} : Lit × DataW H → Nat
  | (.string bytes, d) => bytes.length + uptoBulk d + 1
  | (_, d) => uptoBulk d + 1
 end
def uptoSmall : (H : Type) → List (DataW H) → Bool := fun _ ds => decide (uptoBulkAll ds ≤ 1048576)
def OpenSpec.upto (s : _root_.Go.ChangeSpec) : _root_.Go.OpenSpec := { _root_.Go.OpenSpec.ofChange s with cond := some uptoSmall }

/-- 'philtrelaw27.ViewActs', WHERE WHAT IT READS IS OF BULK AT MOST 1048576: true; the input reads as it did. -/
def viewActsUptoRow : OpenClaim := { program := "ytmlnhjfdhjachaagreat", sum := "227c1d9229a2bde76394058062c1b4200201a5ea3d6e1815eabe59658c409ee5", func := "philtre/philtrelaw27.ViewActs", spec := "viewActs", inPlace := ["slices.overlaps[string]"], unfollowed := true, recurses := true, apart := false, narrowed := true }
def ViewActsUptoSaid : Prop := viewActsUptoRow.holds Tryz.pinned (OpenSpec.upto viewActsSpec)

/-- 'philtrelaw27.ViewReads', WHERE WHAT IT READS IS OF BULK AT MOST 1048576: true; the input reads as it did. -/
def viewReadsUptoRow : OpenClaim := { program := "ytmlnhjfdhjachaagreat", sum := "227c1d9229a2bde76394058062c1b4200201a5ea3d6e1815eabe59658c409ee5", func := "philtre/philtrelaw27.ViewReads", spec := "viewReads", unfollowed := true, recurses := true, apart := false, narrowed := true }
def ViewReadsUptoSaid : Prop := viewReadsUptoRow.holds Tryz.pinned (OpenSpec.upto viewReadsSpec)

/-- 'philtrelaw27.ViewAlone', WHERE WHAT IT READS IS OF BULK AT MOST 1048576: true; the input reads as it did. -/
def viewAloneUptoRow : OpenClaim := { program := "ytmlnhjfdhjachaagreat", sum := "227c1d9229a2bde76394058062c1b4200201a5ea3d6e1815eabe59658c409ee5", func := "philtre/philtrelaw27.ViewAlone", spec := "viewAlone", unfollowed := true, recurses := true, apart := false, narrowed := true }
def ViewAloneUptoSaid : Prop := viewAloneUptoRow.holds Tryz.pinned (OpenSpec.upto viewAloneSpec)

/-- 'philtrelaw30.LayLays', WHERE WHAT IT READS IS OF BULK AT MOST 1048576: true; the input reads as it did. -/
def layLaysUptoRow : OpenClaim := { program := "ytmlnhjfdhjachaagreat", sum := "227c1d9229a2bde76394058062c1b4200201a5ea3d6e1815eabe59658c409ee5", func := "philtre/philtrelaw30.LayLays", spec := "layLays", unfollowed := true, recurses := true, apart := false, narrowed := true }
def LayLaysUptoSaid : Prop := layLaysUptoRow.holds Tryz.pinned (OpenSpec.upto layLaysSpec)

end Rows
end Go.Proofs.YtmlnhjfdhjachaaGreat
