/-
  The law FnExactIsRow returns true, whatever the list. No condition.
-/
import Derived.Test.YthgjghgkjhkbbaaGreatDoorRow
namespace Go.Proofs.YthgjghgkjhkbbaaGreatDoor
open Go.RowKit
set_option linter.unusedVariables false
set_option maxRecDepth 20000


end Go.Proofs.YthgjghgkjhkbbaaGreatDoor
