/-
  The walk of the law FnExactFormatDep: it returns true: the program's FormatDep answers as the reference's.
  Conditions: none; every argument that can be read as data.
-/
import Derived.Test.YtgoggljmifjlfaaFmtD
namespace Go.Proofs.Ytgoggljmifjlfaa.lFormatDep
open Go.RowKit
set_option linter.unusedVariables false

set_option maxRecDepth 100000 in
theorem walk (x1 y1 : Int) (wx1 : (Lit.int .i64 x1).wf = true) (wy1 : (Lit.int .i64 y1).wf = true) (w : World) :
    Calls Try.prog 7 #[.agg #[.int .i64 x1, .int .i64 y1]] w (RetVal w (.bool true)) := by
  clear wx1 wy1
  go_enter Try.func7, Try.ntmps7
  go_wp2_with fail
  refine (toDep_any _ _ _).mono ?_
  rintro e w1 ⟨rfl, hb1⟩
  obtain ⟨c0, c1, hs1, hbb⟩ := box2 hb1
  clear hb1
  go_wp2_with fail
  refine (specFmtD _ _ _).mono ?_
  rintro e w2 ⟨rfl, hb2⟩
  replace c0 := cell_below hb2 c0 hs1
  replace c1 := cell_below hb2 c1 hs1
  go_wp2_with fail
  refine (toDep_any _ _ _).mono ?_
  rintro e w3 ⟨rfl, hb3⟩
  go_wp2_with fail
  refine (implFmtD _ _ _).mono ?_
  rintro e w4 ⟨rfl, hb4⟩
  go_wp2
  go_ret
  exact ⟨rfl, below_call (below_call (below_call hbb hb2) hb3) hb4⟩

end Go.Proofs.Ytgoggljmifjlfaa.lFormatDep
