/-
  Walks of ColumnOf, in the program and in the reference.
  Conditions: as each theorem says.
-/
import Derived.Test.YtkcckfpihpfbnaaIsTab2
namespace Go.Proofs.Ytkcckfpihpfbnaa
open Go.RowKit
set_option linter.unusedVariables false

def colG (m : Int) (zss : List (List Int)) (j : Int) : Bool := isTabB m zss && (decide (0 ≤ j) && decide (j ≤ m - 1))
def colV (m : Int) (zss : List (List Int)) (j : Int) : List Int := if colG m zss j then zss.map fun zs => zs.getD j.toNat 0 else []
theorem colV_len (m : Int) (zss : List (List Int)) (j : Int) : (colV m zss j).length ≤ zss.length := by unfold colV; split <;> simp
theorem isTabB_m {m : Int} {zss : List (List Int)} (h : isTabB m zss = true) : 1 ≤ m ∧ m ≤ 5 ∧ zss.length ≤ 40 ∧ ∀ (k : Nat) (zs : List Int), zss[k]? = some zs → (zs.length : Int) = m := by
  unfold isTabB at h
  simp at h
  obtain ⟨⟨⟨h1, h2⟩, h3⟩, h4⟩ := h
  refine ⟨h1, h2, h3, fun k zs hk => ?_⟩
  have := h4 zs (List.mem_of_getElem? hk)
  unfold isRowB at this
  simp at this
  exact this.2
theorem col_succ {zss : List (List Int)} {k j : Nat} {zs : List Int} {x : Int} (h : zss[k]? = some zs) (hx : zs[j]? = some x) :
    ((zss.take (k + 1)).map fun zs => Value.int .i64 (zs.getD j 0)) = ((zss.take k).map fun zs => Value.int .i64 (zs.getD j 0)) ++ [.int .i64 x] := by
  rw [List.take_add_one, h]; simp [List.getD, hx]

end Go.Proofs.Ytkcckfpihpfbnaa
