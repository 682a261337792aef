/-
  Handing in (layer 29), as a routine. No condition.
-/
import Derived.Test.YtfelkkbgbgnpaaaHandA
import Derived.Test.YtfelkkbgbgnpaaaHandT
namespace Go.Proofs.Ytfelkkbgbgnpaaa
set_option linter.unusedVariables false
open Go.ChangeShapes Go.WideShapes Go.ChangeAt Go.RowKit
open Go.ChangeMaps (setBlock)

def handRout : Rout PHand where
  T := 78
  fAct := 36
  fTake := 39
  mAct := fun _ _ => by kernel_rfl
  mTake := fun _ _ => by kernel_rfl
  nAct := fun _ _ => by kernel_rfl
  nTake := fun _ _ => by kernel_rfl
  eAct := fun _ _ => by kernel_rfl
  eTake := fun _ _ => by kernel_rfl
  R := HandR
  own := fun h => h.1
  hG := fun h => h.2.1
  keep := fun ⟨h1, h2, h3⟩ hs hk => ⟨h1.mono hs, h2, h3.keep h2 hk⟩
  act := PHand.act
  take := PHand.take
  okA := fun h => handAct_ok h.2.2
  cAct := fun ⟨_, _, h⟩ => handAct_any h
  cTake := fun {w G b s} g ⟨h1, h2, h3⟩ hg hmo => (handTake_any h1 h2 h3 hmo g hg).mono fun e w' ⟨he, hv, hc⟩ => ⟨he, ⟨h1.nw hc.size, .inl h2, hv.wide fun k hk => .inl hk⟩, hc⟩
end Go.Proofs.Ytfelkkbgbgnpaaa
