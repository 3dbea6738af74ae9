/-
  The walk of the law FnExactIsAttributes: it returns true: the program's IsAttributes answers as the reference's.
  Conditions: none; every argument that can be read as data.
-/
import Derived.Test.YthhigkeplgabcaaAttr
namespace Go.Proofs.Ythhigkeplgabcaa.lIsAttributes
open Go.RowKit
set_option linter.unusedVariables false

theorem walk (a0 : Int) (w0 : (Lit.int .i64 a0).wf = true) (a1 : Int) (w1 : (Lit.int .i64 a1).wf = true) (w : World) :
    Calls Try.prog 5 #[.int .i64 a0, .int .i64 a1] w (RetVal w (.bool true)) := by
  clear w0 w1
  go_enter Try.func5, Try.ntmps5
  go_wp2_with (first
    | (go_at_call 17; refine (specAttr _ _ _).mono ?_; rintro e w1 ⟨rfl, rfl⟩)
    | (go_at_call 18; refine (implAttr _ _ _).mono ?_; rintro e w2 ⟨rfl, rfl⟩))
  go_ret
  exact ⟨rfl, Below.refl _ _⟩

end Go.Proofs.Ythhigkeplgabcaa.lIsAttributes
