/-
  The walk of the law FnExactEncodeVarint: it returns true: the program's EncodeVarint answers as the reference's.
  Conditions: none; every argument that can be read as data.
-/
import Derived.Test.YthhigkeplgabcaaNumC
namespace Go.Proofs.Ythhigkeplgabcaa.lEncodeVarint
open Go.RowKit
set_option linter.unusedVariables false

set_option maxRecDepth 100000 in
theorem walk (a0 : Int) (w0 : (Lit.int .i64 a0).wf = true) (w : World) :
    Calls Try.prog 10 #[.int .i64 a0] w (RetVal w (.bool true)) := by
  clear w0
  go_enter Try.func10, Try.ntmps10
  go_wp2_with (first
    | (go_at_call 28; refine (specVar _ _).mono ?_; rintro e w1 ⟨rfl, hb1⟩)
    | (go_at_call 29; refine (implVar _ _).mono ?_; rintro e w2 ⟨rfl, hb2⟩))
  go_ret
  exact ⟨rfl, hb1.trans (hb2.mono hb1.size)⟩

end Go.Proofs.Ythhigkeplgabcaa.lEncodeVarint
