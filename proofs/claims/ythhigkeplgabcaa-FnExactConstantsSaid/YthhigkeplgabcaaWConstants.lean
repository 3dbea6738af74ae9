/-
  The walk of the law FnExactConstants: it returns true: the program's constants are the reference's.
  Conditions: none; every argument that can be read as data.
-/
import Derived.Test.YthhigkeplgabcaaWords
namespace Go.Proofs.Ythhigkeplgabcaa.lConstants
open Go.RowKit
set_option linter.unusedVariables false

theorem walk (w : World) : Calls Try.prog 3 #[] w (RetVal w (.bool true)) := by
  go_enter Try.func3, Try.ntmps3
  go_wp2
  go_ret
  exact ⟨rfl, Below.refl _ _⟩

end Go.Proofs.Ythhigkeplgabcaa.lConstants
