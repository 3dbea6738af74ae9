/-
  The walk of the law FnExactParseAttributes: it returns true: the program's ParseAttributes answers as the reference's.
  Conditions: none; every argument that can be read as data.
-/
import Derived.Test.YtgoggljmifjlfaaParA
namespace Go.Proofs.Ytgoggljmifjlfaa.lParseAttributes
open Go.RowKit
set_option linter.unusedVariables false

set_option maxRecDepth 100000 in
theorem walk (a0 : ByteArray) (w0 : a0.size ≤ maxLen) (w : World) :
    Calls Try.prog 5 #[.string a0] w (RetVal w (.bool true)) := by
  rw [str_of]
  have w0' : a0.data.toList.length ≤ maxLen := by simpa using w0
  unfold maxLen at w0'
  generalize a0.data.toList = l at *
  clear w0
  by_cases hbig : 1048576 < l.length
  · go_enter Try.func5, Try.ntmps5
    go_wp2
    go_ret
    exact ⟨rfl, Below.refl _ _⟩
  · have hs : l.length ≤ 1048576 := by omega
    obtain ⟨r, b, hv⟩ := parV_form l
    have h1 := fun X => specPar l X hs
    have h2 := fun X => implPar l X hs
    rw [hv] at h1 h2
    replace h1 := hide h1
    replace h2 := hide h2
    clear hv
    go_enter Try.func5, Try.ntmps5
    go_wp2_with (first
      | (go_at_call 22; refine (h1.out _).mono ?_; rintro e w1 ⟨rfl, rfl⟩)
      | (go_at_call 23; refine (h2.out _).mono ?_; rintro e w2 ⟨rfl, hb2⟩))
    go_ret
    exact ⟨rfl, hb2⟩

end Go.Proofs.Ytgoggljmifjlfaa.lParseAttributes
