/-
  The walk of the law FnExactFormatInt: it returns true: the program's FormatInt answers as the reference's.
  Conditions: the library's own variables hold what its text lays.
-/
import Derived.Test.YtooiobcghobefaaDoorItaI
namespace Go.Proofs.YtooiobcghobefaaDoor.lFormatInt
open Go.RowKit
set_option linter.unusedVariables false

set_option maxRecDepth 100000 in
theorem walk (w : World) (a : Int) (wa : (Lit.int .i64 a).wf = true) (ht : Tabs w) : Calls Tryd.prog 4 #[.int .i64 a] w (RetVal w (.bool true)) := by
  have hr : -9223372036854775808 ≤ a ∧ a ≤ 9223372036854775807 := bounds_i64 wa
  obtain ⟨h0, h1⟩ := hr
  have c1 := hide (specItoa a w h0 h1)
  replace ht := hide ht
  replace h0 := hide h0
  replace h1 := hide h1
  clear wa
  go_enter Tryd.func4, Tryd.ntmps4
  go_wp2_with fail
  refine c1.out.mono ?_
  rintro e w1 ⟨rfl, hb1⟩
  go_wp2_with fail
  refine (implItoa a _ h0.out h1.out (ht.out.below hb1)).mono ?_
  rintro e w2 ⟨rfl, hb2⟩
  have hb := below_call hb1 hb2
  have hne : (Lib.itoa a == Lib.itoa a) = true := by simp
  go_wp2_with fail
  go_ret
  exact ⟨rfl, hb⟩
end Go.Proofs.YtooiobcghobefaaDoor.lFormatInt
