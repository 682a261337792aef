/-
  No cell of these rows narrows 'for every input' (looked for: loops, veiled, ifaces, maps, wideKeys, modest, calm, conditions, laid).
  DERIVED. THE GIVEN ROWS OF THIS SEAT. 10 by the template 'for every input the law returns true; each argument reads behind the call as it read before'; 0 by the template 'total and deterministic' (their statements: YtpldnbdcpihjcaaTotals.lean).
  GIVEN WITH THE SEED: the statements are not yours to turn. If you find one false, say at which input.
  Laid BY PROGRAM, IN A SANDBOX (cutbox-rows.mjs): the forced cells as the released guide's own fill.sh prints them over the translation 47df4d68bf43c608… (all of the seat's roots in one cut). By AI agents, Wed Nov 11 2026. No macro, syntax, notation, axiom, sorry.
-/
import Derived.Test.YtpldnbdcpihjcaaChecked
import GoSem.Claim
import GoSem.ClaimJoined
import GoSem.ClaimMapViews
import Derived.JoinedTies
import Derived.KernelRfl
namespace Go.Proofs.Ytpldnbdcpihjcaa
/- THE CELL 'sum', in the pinned program and in every row, IS THE sha256 OF THE DUMP (.gsa) THAT YtpldnbdcpihjcaaProg.lean LOADS. Nothing in Lean hashes anything: it is a label: what it is worth is what the hold of that sum in a sandbox is worth. -/
noncomputable def Try.pinned : Pinned := { name := "ytpldnbdcpihjcaa", sum := "47df4d68bf43c6085b67cbb9a8dc8ab6379b49c6ebda44765463f05a8be3065e", checked := Try.checked }
namespace Rows
def none {H : Type} : Left H := { results := [], args := [] }

/-- 'philtrelaw23.FindActs': WHATEVER THE INPUT: true; the input reads as it did. -/
def findActsSpec : ChangeSpec := { name := "findActs", fn := fun _ => fun
  | [d1, d2, d3] => { results := [.lit (.bool true)], args := [d1, d2, d3] }
  | _ => none }
def findActsRow : OpenClaim := { program := "ytpldnbdcpihjcaa", sum := "47df4d68bf43c6085b67cbb9a8dc8ab6379b49c6ebda44765463f05a8be3065e", func := "philtre/philtrelaw23.FindActs", spec := "findActs", unfollowed := true, recurses := true, apart := false }
def FindActsSaid : Prop := findActsRow.holds Try.pinned (OpenSpec.ofChange findActsSpec)

/-- ITS FALSE NEIGHBOUR: 'it returns false'. Refute it at one input. -/
def findActsWrong : ChangeSpec := { name := "findActs", fn := fun _ => fun
  | [d1, d2, d3] => { results := [.lit (.bool false)], args := [d1, d2, d3] }
  | _ => none }
def FindActsWrongFalsely : Prop := findActsRow.holds Try.pinned (OpenSpec.ofChange findActsWrong)

/-- 'philtrelaw23.FindFinds': WHATEVER THE INPUT: true; the input reads as it did. -/
def findFindsSpec : ChangeSpec := { name := "findFinds", fn := fun _ => fun
  | [d1, d2, d3] => { results := [.lit (.bool true)], args := [d1, d2, d3] }
  | _ => none }
def findFindsRow : OpenClaim := { program := "ytpldnbdcpihjcaa", sum := "47df4d68bf43c6085b67cbb9a8dc8ab6379b49c6ebda44765463f05a8be3065e", func := "philtre/philtrelaw23.FindFinds", spec := "findFinds", unfollowed := true, recurses := true, apart := false }
def FindFindsSaid : Prop := findFindsRow.holds Try.pinned (OpenSpec.ofChange findFindsSpec)

/-- ITS FALSE NEIGHBOUR: 'it returns false'. Refute it at one input. -/
def findFindsWrong : ChangeSpec := { name := "findFinds", fn := fun _ => fun
  | [d1, d2, d3] => { results := [.lit (.bool false)], args := [d1, d2, d3] }
  | _ => none }
def FindFindsWrongFalsely : Prop := findFindsRow.holds Try.pinned (OpenSpec.ofChange findFindsWrong)

/-- 'philtrelaw23.FindStays': WHATEVER THE INPUT: true; the input reads as it did. -/
def findStaysSpec : ChangeSpec := { name := "findStays", fn := fun _ => fun
  | [d1, d2, d3] => { results := [.lit (.bool true)], args := [d1, d2, d3] }
  | _ => none }
def findStaysRow : OpenClaim := { program := "ytpldnbdcpihjcaa", sum := "47df4d68bf43c6085b67cbb9a8dc8ab6379b49c6ebda44765463f05a8be3065e", func := "philtre/philtrelaw23.FindStays", spec := "findStays", unfollowed := true, recurses := true, apart := false }
def FindStaysSaid : Prop := findStaysRow.holds Try.pinned (OpenSpec.ofChange findStaysSpec)

/-- ITS FALSE NEIGHBOUR: 'it returns false'. Refute it at one input. -/
def findStaysWrong : ChangeSpec := { name := "findStays", fn := fun _ => fun
  | [d1, d2, d3] => { results := [.lit (.bool false)], args := [d1, d2, d3] }
  | _ => none }
def FindStaysWrongFalsely : Prop := findStaysRow.holds Try.pinned (OpenSpec.ofChange findStaysWrong)

/-- 'philtrelaw24.ChainReads': WHATEVER THE INPUT: true; the input reads as it did. -/
def chainReadsSpec : ChangeSpec := { name := "chainReads", fn := fun _ => fun
  | [d1, d2, d3] => { results := [.lit (.bool true)], args := [d1, d2, d3] }
  | _ => none }
def chainReadsRow : OpenClaim := { program := "ytpldnbdcpihjcaa", sum := "47df4d68bf43c6085b67cbb9a8dc8ab6379b49c6ebda44765463f05a8be3065e", func := "philtre/philtrelaw24.ChainReads", spec := "chainReads", unfollowed := true, recurses := true, apart := false }
def ChainReadsSaid : Prop := chainReadsRow.holds Try.pinned (OpenSpec.ofChange chainReadsSpec)

/-- ITS FALSE NEIGHBOUR: 'it returns false'. Refute it at one input. -/
def chainReadsWrong : ChangeSpec := { name := "chainReads", fn := fun _ => fun
  | [d1, d2, d3] => { results := [.lit (.bool false)], args := [d1, d2, d3] }
  | _ => none }
def ChainReadsWrongFalsely : Prop := chainReadsRow.holds Try.pinned (OpenSpec.ofChange chainReadsWrong)

/-- 'philtrelaw25.PinActs': WHATEVER THE INPUT: true; the input reads as it did. -/
def pinActsSpec : ChangeSpec := { name := "pinActs", fn := fun _ => fun
  | [d1, d2, d3] => { results := [.lit (.bool true)], args := [d1, d2, d3] }
  | _ => none }
def pinActsRow : OpenClaim := { program := "ytpldnbdcpihjcaa", sum := "47df4d68bf43c6085b67cbb9a8dc8ab6379b49c6ebda44765463f05a8be3065e", func := "philtre/philtrelaw25.PinActs", spec := "pinActs", unfollowed := true, recurses := true, apart := false }
def PinActsSaid : Prop := pinActsRow.holds Try.pinned (OpenSpec.ofChange pinActsSpec)

/-- ITS FALSE NEIGHBOUR: 'it returns false'. Refute it at one input. -/
def pinActsWrong : ChangeSpec := { name := "pinActs", fn := fun _ => fun
  | [d1, d2, d3] => { results := [.lit (.bool false)], args := [d1, d2, d3] }
  | _ => none }
def PinActsWrongFalsely : Prop := pinActsRow.holds Try.pinned (OpenSpec.ofChange pinActsWrong)

/-- 'philtrelaw25.PinHolds': WHATEVER THE INPUT: true; the input reads as it did. -/
def pinHoldsSpec : ChangeSpec := { name := "pinHolds", fn := fun _ => fun
  | [d1, d2, d3] => { results := [.lit (.bool true)], args := [d1, d2, d3] }
  | _ => none }
def pinHoldsRow : OpenClaim := { program := "ytpldnbdcpihjcaa", sum := "47df4d68bf43c6085b67cbb9a8dc8ab6379b49c6ebda44765463f05a8be3065e", func := "philtre/philtrelaw25.PinHolds", spec := "pinHolds", unfollowed := true, recurses := true, apart := false }
def PinHoldsSaid : Prop := pinHoldsRow.holds Try.pinned (OpenSpec.ofChange pinHoldsSpec)

/-- ITS FALSE NEIGHBOUR: 'it returns false'. Refute it at one input. -/
def pinHoldsWrong : ChangeSpec := { name := "pinHolds", fn := fun _ => fun
  | [d1, d2, d3] => { results := [.lit (.bool false)], args := [d1, d2, d3] }
  | _ => none }
def PinHoldsWrongFalsely : Prop := pinHoldsRow.holds Try.pinned (OpenSpec.ofChange pinHoldsWrong)

/-- 'philtrelaw25.PinAlone': WHATEVER THE INPUT: true; the input reads as it did. -/
def pinAloneSpec : ChangeSpec := { name := "pinAlone", fn := fun _ => fun
  | [d1, d2, d3] => { results := [.lit (.bool true)], args := [d1, d2, d3] }
  | _ => none }
def pinAloneRow : OpenClaim := { program := "ytpldnbdcpihjcaa", sum := "47df4d68bf43c6085b67cbb9a8dc8ab6379b49c6ebda44765463f05a8be3065e", func := "philtre/philtrelaw25.PinAlone", spec := "pinAlone", unfollowed := true, recurses := true, apart := false }
def PinAloneSaid : Prop := pinAloneRow.holds Try.pinned (OpenSpec.ofChange pinAloneSpec)

/-- ITS FALSE NEIGHBOUR: 'it returns false'. Refute it at one input. -/
def pinAloneWrong : ChangeSpec := { name := "pinAlone", fn := fun _ => fun
  | [d1, d2, d3] => { results := [.lit (.bool false)], args := [d1, d2, d3] }
  | _ => none }
def PinAloneWrongFalsely : Prop := pinAloneRow.holds Try.pinned (OpenSpec.ofChange pinAloneWrong)

/-- 'philtrelaw28.ReserveActs': WHATEVER THE INPUT: true; the input reads as it did. -/
def reserveActsSpec : ChangeSpec := { name := "reserveActs", fn := fun _ => fun
  | [d1, d2] => { results := [.lit (.bool true)], args := [d1, d2] }
  | _ => none }
def reserveActsRow : OpenClaim := { program := "ytpldnbdcpihjcaa", sum := "47df4d68bf43c6085b67cbb9a8dc8ab6379b49c6ebda44765463f05a8be3065e", func := "philtre/philtrelaw28.ReserveActs", spec := "reserveActs", unfollowed := true, recurses := true, apart := false }
def ReserveActsSaid : Prop := reserveActsRow.holds Try.pinned (OpenSpec.ofChange reserveActsSpec)

/-- ITS FALSE NEIGHBOUR: 'it returns false'. Refute it at one input. -/
def reserveActsWrong : ChangeSpec := { name := "reserveActs", fn := fun _ => fun
  | [d1, d2] => { results := [.lit (.bool false)], args := [d1, d2] }
  | _ => none }
def ReserveActsWrongFalsely : Prop := reserveActsRow.holds Try.pinned (OpenSpec.ofChange reserveActsWrong)

/-- 'philtrelaw28.ReserveApart': WHATEVER THE INPUT: true; the input reads as it did. -/
def reserveApartSpec : ChangeSpec := { name := "reserveApart", fn := fun _ => fun
  | [d1, d2, d3] => { results := [.lit (.bool true)], args := [d1, d2, d3] }
  | _ => none }
def reserveApartRow : OpenClaim := { program := "ytpldnbdcpihjcaa", sum := "47df4d68bf43c6085b67cbb9a8dc8ab6379b49c6ebda44765463f05a8be3065e", func := "philtre/philtrelaw28.ReserveApart", spec := "reserveApart", unfollowed := true, recurses := true, apart := false }
def ReserveApartSaid : Prop := reserveApartRow.holds Try.pinned (OpenSpec.ofChange reserveApartSpec)

/-- ITS FALSE NEIGHBOUR: 'it returns false'. Refute it at one input. -/
def reserveApartWrong : ChangeSpec := { name := "reserveApart", fn := fun _ => fun
  | [d1, d2, d3] => { results := [.lit (.bool false)], args := [d1, d2, d3] }
  | _ => none }
def ReserveApartWrongFalsely : Prop := reserveApartRow.holds Try.pinned (OpenSpec.ofChange reserveApartWrong)

/-- 'philtrelaw28.ReserveBound': WHATEVER THE INPUT: true; the input reads as it did. -/
def reserveBoundSpec : ChangeSpec := { name := "reserveBound", fn := fun _ => fun
  | [d1, d2] => { results := [.lit (.bool true)], args := [d1, d2] }
  | _ => none }
def reserveBoundRow : OpenClaim := { program := "ytpldnbdcpihjcaa", sum := "47df4d68bf43c6085b67cbb9a8dc8ab6379b49c6ebda44765463f05a8be3065e", func := "philtre/philtrelaw28.ReserveBound", spec := "reserveBound", unfollowed := true, recurses := true, apart := false }
def ReserveBoundSaid : Prop := reserveBoundRow.holds Try.pinned (OpenSpec.ofChange reserveBoundSpec)

/-- ITS FALSE NEIGHBOUR: 'it returns false'. Refute it at one input. -/
def reserveBoundWrong : ChangeSpec := { name := "reserveBound", fn := fun _ => fun
  | [d1, d2] => { results := [.lit (.bool false)], args := [d1, d2] }
  | _ => none }
def ReserveBoundWrongFalsely : Prop := reserveBoundRow.holds Try.pinned (OpenSpec.ofChange reserveBoundWrong)

/- THE SECOND FORM. 'bulk': how many values and letters a reading holds, each counted each time it is reached (what is shared counts as often as it is met; a slice's spare places count too). A statement '..UptoSaid' is the law's where the arguments, and the package variables that the reading takes, are together of bulk at most 1048576: NARROWER than '..Said'. Prove '..Said' where nothing that the law and all that it calls make is longer than what came in: it says more and counts as full. Else prove '..UptoSaid'. A law counts once. -/
mutual
def uptoBulk {H : Type} : DataW H → Nat
  | .lit (.string bytes) => bytes.length + 1
  | .lit _ => 1
  | .nil => 1
  | .ptr d => uptoBulk d + 1
  | .slice elems spare => uptoBulkAll elems + uptoBulkAll spare + 1
  | .agg parts => uptoBulkAll parts + 1
  | .iface _ d => uptoBulk d + 1
  | .map entries => uptoBulkEntries entries + 1
  | .held _ => 1
def uptoBulkAll {H : Type} : List (DataW H) → Nat
  | [] => 0
  | d :: r => uptoBulk d + uptoBulkAll r
def uptoBulkEntries {H : Type} : List (Lit × DataW H) → Nat
  | [] => 0
  | x :: r => uptoBulkEntry x + uptoBulkEntries r
def uptoBulkEntry {H : Type} : Lit × DataW H → Nat
  | (.string bytes, d) => bytes.length + uptoBulk d + 1
  | (_, d) => uptoBulk d + 1
 end
def uptoSmall : (H : Type) → List (DataW H) → Bool := fun _ ds => decide (uptoBulkAll ds ≤ 1048576)
def OpenSpec.upto (s : _root_.Go.ChangeSpec) : _root_.Go.OpenSpec := { _root_.Go.OpenSpec.ofChange s with cond := some uptoSmall }

/-- 'philtrelaw23.FindActs', WHERE WHAT IT READS IS OF BULK AT MOST 1048576: true; the input reads as it did. -/
def findActsUptoRow : OpenClaim := { program := "ytpldnbdcpihjcaa", sum := "47df4d68bf43c6085b67cbb9a8dc8ab6379b49c6ebda44765463f05a8be3065e", func := "philtre/philtrelaw23.FindActs", spec := "findActs", unfollowed := true, recurses := true, apart := false, narrowed := true }
def FindActsUptoSaid : Prop := findActsUptoRow.holds Try.pinned (OpenSpec.upto findActsSpec)

/-- 'philtrelaw23.FindFinds', WHERE WHAT IT READS IS OF BULK AT MOST 1048576: true; the input reads as it did. -/
def findFindsUptoRow : OpenClaim := { program := "ytpldnbdcpihjcaa", sum := "47df4d68bf43c6085b67cbb9a8dc8ab6379b49c6ebda44765463f05a8be3065e", func := "philtre/philtrelaw23.FindFinds", spec := "findFinds", unfollowed := true, recurses := true, apart := false, narrowed := true }
def FindFindsUptoSaid : Prop := findFindsUptoRow.holds Try.pinned (OpenSpec.upto findFindsSpec)

/-- 'philtrelaw23.FindStays', WHERE WHAT IT READS IS OF BULK AT MOST 1048576: true; the input reads as it did. -/
def findStaysUptoRow : OpenClaim := { program := "ytpldnbdcpihjcaa", sum := "47df4d68bf43c6085b67cbb9a8dc8ab6379b49c6ebda44765463f05a8be3065e", func := "philtre/philtrelaw23.FindStays", spec := "findStays", unfollowed := true, recurses := true, apart := false, narrowed := true }
def FindStaysUptoSaid : Prop := findStaysUptoRow.holds Try.pinned (OpenSpec.upto findStaysSpec)

/-- 'philtrelaw24.ChainReads', WHERE WHAT IT READS IS OF BULK AT MOST 1048576: true; the input reads as it did. -/
def chainReadsUptoRow : OpenClaim := { program := "ytpldnbdcpihjcaa", sum := "47df4d68bf43c6085b67cbb9a8dc8ab6379b49c6ebda44765463f05a8be3065e", func := "philtre/philtrelaw24.ChainReads", spec := "chainReads", unfollowed := true, recurses := true, apart := false, narrowed := true }
def ChainReadsUptoSaid : Prop := chainReadsUptoRow.holds Try.pinned (OpenSpec.upto chainReadsSpec)

/-- 'philtrelaw25.PinActs', WHERE WHAT IT READS IS OF BULK AT MOST 1048576: true; the input reads as it did. -/
def pinActsUptoRow : OpenClaim := { program := "ytpldnbdcpihjcaa", sum := "47df4d68bf43c6085b67cbb9a8dc8ab6379b49c6ebda44765463f05a8be3065e", func := "philtre/philtrelaw25.PinActs", spec := "pinActs", unfollowed := true, recurses := true, apart := false, narrowed := true }
def PinActsUptoSaid : Prop := pinActsUptoRow.holds Try.pinned (OpenSpec.upto pinActsSpec)

/-- 'philtrelaw25.PinHolds', WHERE WHAT IT READS IS OF BULK AT MOST 1048576: true; the input reads as it did. -/
def pinHoldsUptoRow : OpenClaim := { program := "ytpldnbdcpihjcaa", sum := "47df4d68bf43c6085b67cbb9a8dc8ab6379b49c6ebda44765463f05a8be3065e", func := "philtre/philtrelaw25.PinHolds", spec := "pinHolds", unfollowed := true, recurses := true, apart := false, narrowed := true }
def PinHoldsUptoSaid : Prop := pinHoldsUptoRow.holds Try.pinned (OpenSpec.upto pinHoldsSpec)

/-- 'philtrelaw25.PinAlone', WHERE WHAT IT READS IS OF BULK AT MOST 1048576: true; the input reads as it did. -/
def pinAloneUptoRow : OpenClaim := { program := "ytpldnbdcpihjcaa", sum := "47df4d68bf43c6085b67cbb9a8dc8ab6379b49c6ebda44765463f05a8be3065e", func := "philtre/philtrelaw25.PinAlone", spec := "pinAlone", unfollowed := true, recurses := true, apart := false, narrowed := true }
def PinAloneUptoSaid : Prop := pinAloneUptoRow.holds Try.pinned (OpenSpec.upto pinAloneSpec)

/-- 'philtrelaw28.ReserveActs', WHERE WHAT IT READS IS OF BULK AT MOST 1048576: true; the input reads as it did. -/
def reserveActsUptoRow : OpenClaim := { program := "ytpldnbdcpihjcaa", sum := "47df4d68bf43c6085b67cbb9a8dc8ab6379b49c6ebda44765463f05a8be3065e", func := "philtre/philtrelaw28.ReserveActs", spec := "reserveActs", unfollowed := true, recurses := true, apart := false, narrowed := true }
def ReserveActsUptoSaid : Prop := reserveActsUptoRow.holds Try.pinned (OpenSpec.upto reserveActsSpec)

/-- 'philtrelaw28.ReserveApart', WHERE WHAT IT READS IS OF BULK AT MOST 1048576: true; the input reads as it did. -/
def reserveApartUptoRow : OpenClaim := { program := "ytpldnbdcpihjcaa", sum := "47df4d68bf43c6085b67cbb9a8dc8ab6379b49c6ebda44765463f05a8be3065e", func := "philtre/philtrelaw28.ReserveApart", spec := "reserveApart", unfollowed := true, recurses := true, apart := false, narrowed := true }
def ReserveApartUptoSaid : Prop := reserveApartUptoRow.holds Try.pinned (OpenSpec.upto reserveApartSpec)

/-- 'philtrelaw28.ReserveBound', WHERE WHAT IT READS IS OF BULK AT MOST 1048576: true; the input reads as it did. -/
def reserveBoundUptoRow : OpenClaim := { program := "ytpldnbdcpihjcaa", sum := "47df4d68bf43c6085b67cbb9a8dc8ab6379b49c6ebda44765463f05a8be3065e", func := "philtre/philtrelaw28.ReserveBound", spec := "reserveBound", unfollowed := true, recurses := true, apart := false, narrowed := true }
def ReserveBoundUptoSaid : Prop := reserveBoundUptoRow.holds Try.pinned (OpenSpec.upto reserveBoundSpec)

end Rows
end Go.Proofs.Ytpldnbdcpihjcaa
