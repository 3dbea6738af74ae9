/-
  The walk of the law FnExactEncodeHex: it returns true: the program's EncodeHex answers as the reference's.
  Conditions: none; every argument that can be read as data.
-/
import Derived.Test.YthhigkeplgabcaaHex
namespace Go.Proofs.Ythhigkeplgabcaa.lEncodeHex
open Go.RowKit
set_option linter.unusedVariables false

set_option maxRecDepth 100000 in
theorem walk (a0 : ByteArray) (w0 : a0.size ≤ maxLen) (w : World) :
    Calls Try.prog 7 #[.string a0] w (RetVal w (.bool true)) := by
  unfold maxLen at w0
  by_cases hbig : 1048576 < a0.size
  · go_enter Try.func7, Try.ntmps7
    go_wp2
    go_ret
    exact ⟨rfl, Below.refl _ _⟩
  · have hs : a0.size ≤ 1048576 := by omega
    go_enter Try.func7, Try.ntmps7
    go_wp2_with (first
      | (go_at_call 21; refine (specHex _ _ hs).mono ?_; rintro e w1 ⟨rfl, hb1⟩)
      | (go_at_call 22; refine (implHex _ _ hs).mono ?_; rintro e w2 ⟨rfl, hb2⟩))
    go_ret
    exact ⟨rfl, below_call hb1 hb2⟩

end Go.Proofs.Ythhigkeplgabcaa.lEncodeHex
