/-
  Contracts of the text of a row (the reference and the program). Condition: a row that the call owns.
-/
import Derived.Test.YthgjghgkjhkbbaaDoorRow
import Derived.Test.YthgjghgkjhkbbaaDoorBarC
import Derived.Test.YthgjghgkjhkbbaaDoorStr
import Derived.Test.YthgjghgkjhkbbaaDoorTextP
import Derived.Test.YthgjghgkjhkbbaaDoorTo
namespace Go.Proofs.YthgjghgkjhkbbaaDoor
open Go.RowKit
set_option linter.unusedVariables false


end Go.Proofs.YthgjghgkjhkbbaaDoor
