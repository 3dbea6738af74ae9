/-
  The walk of the law FnExactEncodeFixed: it returns true: the program's EncodeFixed answers as the reference's.
  Conditions: none; every argument that can be read as data.
-/
import Derived.Test.YthhigkeplgabcaaNumC
namespace Go.Proofs.Ythhigkeplgabcaa.lEncodeFixed
open Go.RowKit
set_option linter.unusedVariables false

set_option maxRecDepth 100000 in
theorem walk (a0 : Int) (w0 : (Lit.int .i64 a0).wf = true) (a1 : Int) (w1 : (Lit.int .i64 a1).wf = true) (w : World) :
    Calls Try.prog 11 #[.int .i64 a0, .int .i64 a1] w (RetVal w (.bool true)) := by
  have b0 := (bounds_i64 w0).2
  clear w0 w1
  go_enter Try.func11, Try.ntmps11
  go_wp2_with (first
    | (go_at_call 30; refine (specFix _ _ _ b0).mono ?_; rintro e w1 ⟨rfl, hb1⟩)
    | (go_at_call 31; refine (implFix _ _ _ b0).mono ?_; rintro e w2 ⟨rfl, hb2⟩))
  go_ret
  exact ⟨rfl, hb1.trans (hb2.mono hb1.size)⟩

end Go.Proofs.Ythhigkeplgabcaa.lEncodeFixed
