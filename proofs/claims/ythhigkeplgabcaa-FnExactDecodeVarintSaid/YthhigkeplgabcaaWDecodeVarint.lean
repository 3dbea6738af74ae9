/-
  The walk of the law FnExactDecodeVarint: it returns true: the program's DecodeVarint answers as the reference's.
  Conditions: none; every argument that can be read as data.
-/
import Derived.Test.YthhigkeplgabcaaVarD
namespace Go.Proofs.Ythhigkeplgabcaa.lDecodeVarint
open Go.RowKit
set_option linter.unusedVariables false

set_option maxRecDepth 100000 in
theorem walk (a0 : ByteArray) (w0 : a0.size ≤ maxLen) (w : World) :
    Calls Try.prog 13 #[.string a0] w (RetVal w (.bool true)) := by
  rw [str_of]
  have w0' : a0.data.toList.length ≤ maxLen := by simpa using w0
  unfold maxLen at w0'
  generalize a0.data.toList = l at *
  clear w0
  by_cases hbig : 1048576 < l.length
  · go_enter Try.func13, Try.ntmps13
    go_wp2
    go_ret
    exact ⟨rfl, Below.refl _ _⟩
  · have hs : l.length ≤ 1048576 := by omega
    have h1 := fun X => specDecV l X hs
    have h2 := fun X => implDecV l X hs
    unfold decVV at h1 h2
    replace h1 := hide h1
    replace h2 := hide h2
    go_enter Try.func13, Try.ntmps13
    go_wp2_with (first
      | (go_at_call 34; refine (h1.out _).mono ?_; rintro e w1 ⟨rfl, hb1⟩)
      | (go_at_call 35; refine (h2.out _).mono ?_; rintro e w2 ⟨rfl, rfl⟩))
    go_ret
    exact ⟨rfl, hb1⟩

end Go.Proofs.Ythhigkeplgabcaa.lDecodeVarint
