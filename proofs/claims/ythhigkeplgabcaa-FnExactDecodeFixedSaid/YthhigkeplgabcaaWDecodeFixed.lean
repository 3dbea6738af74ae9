/-
  The walk of the law FnExactDecodeFixed: it returns true: the program's DecodeFixed answers as the reference's.
  Conditions: none; every argument that can be read as data.
-/
import Derived.Test.YthhigkeplgabcaaNumC
namespace Go.Proofs.Ythhigkeplgabcaa.lDecodeFixed
open Go.RowKit
set_option linter.unusedVariables false

set_option maxRecDepth 100000 in
theorem walk (a0 : ByteArray) (w0 : a0.size ≤ maxLen) (a1 : Int) (w1 : (Lit.int .i64 a1).wf = true) (w : World) :
    Calls Try.prog 9 #[.string a0, .int .i64 a1] w (RetVal w (.bool true)) := by
  have H := hide w0
  unfold maxLen at w0
  obtain ⟨n, b, hv⟩ := decA_form a0.data.toList a1
  have h1 := fun X => specDecF a0 a1 X H.out
  have h2 := fun X => implDecF a0 a1 X H.out
  rw [hv] at h1 h2
  replace h1 := hide h1
  replace h2 := hide h2
  clear hv w1
  by_cases hbig : 1048576 < a0.size
  · go_enter Try.func9, Try.ntmps9
    go_wp2
    go_ret
    exact ⟨rfl, Below.refl _ _⟩
  · go_enter Try.func9, Try.ntmps9
    go_wp2_with (first
      | (go_at_call 26; refine (h1.out _).mono ?_; rintro e w1 ⟨rfl, rfl⟩)
      | (go_at_call 27; refine (h2.out _).mono ?_; rintro e w2 ⟨rfl, rfl⟩))
    go_ret
    exact ⟨rfl, Below.refl _ _⟩

end Go.Proofs.Ythhigkeplgabcaa.lDecodeFixed
