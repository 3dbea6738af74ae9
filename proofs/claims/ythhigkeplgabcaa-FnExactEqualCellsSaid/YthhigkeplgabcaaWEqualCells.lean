/-
  The walk of the law FnExactEqualCells: it returns true: the program's EqualCells answers as the reference's.
  Conditions: none; every argument that can be read as data.
-/
import Derived.Test.YthhigkeplgabcaaWords
namespace Go.Proofs.Ythhigkeplgabcaa.lEqualCells
open Go.RowKit
set_option linter.unusedVariables false

theorem walk (a0 : Int) (w0 : (Lit.int .i64 a0).wf = true) (a1 : Int) (w1 : (Lit.int .i64 a1).wf = true) (a2 : Int) (w2 : (Lit.int .i64 a2).wf = true) (w : World) :
    Calls Try.prog 4 #[.int .i64 a0, .int .i64 a1, .int .i64 a2] w (RetVal w (.bool true)) := by
  clear w0 w1 w2
  by_cases h0 : a0 = 0 <;> by_cases h1 : a0 = 1 <;> by_cases h2 : a1 = a2 <;> by_cases h3 : a1 = -1
  all_goals first | (exfalso; omega) | skip
  all_goals
    go_enter Try.func4, Try.ntmps4
    go_wp2
    go_ret
    exact ⟨rfl, Below.refl _ _⟩

end Go.Proofs.Ythhigkeplgabcaa.lEqualCells
