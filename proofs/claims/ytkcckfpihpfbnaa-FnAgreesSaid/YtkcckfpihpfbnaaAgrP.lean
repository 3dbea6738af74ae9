/-
  Plain laws behind FnAgrees: agree sets hold the pairs' sets, greatest and least sets are so.
  Conditions: as each theorem says.
-/
import Derived.Test.YtkcckfpihpfbnaaDfI
import Derived.Test.YtkcckfpihpfbnaaSets
namespace Go.Proofs.Ytkcckfpihpfbnaa
open Go.RowKit
set_option linter.unusedVariables false

theorem agr_symm (m : Int) (zss : List (List Int)) (mode i j : Int) : agrV m zss mode i j = agrV m zss mode j i := by
  have hG : agrG m zss mode i j = agrG m zss mode j i := by unfold agrG; rw [Bool.and_comm (decide (0 ≤ i) && _)]
  unfold agrV
  rw [hG, agrN_symm]
theorem agr_mem {m : Int} {zss : List (List Int)} {mode : Int} {i k : Nat} (hT : isTabB m zss = true) (hM : modeB mode = true) (hi : i < zss.length) (hk : k < zss.length) (hne : i < k) : agrV m zss mode (i : Int) (k : Int) ∈ agsL m zss mode := by
  have hG : agsG m zss mode = true := by unfold agsG; rw [hT, hM]; rfl
  unfold agsL
  rw [if_pos hG, (distL_ok _).2, agP_mem]
  refine ⟨k, i, hne, hk, ?_⟩
  have hg : agrG m zss mode (i : Int) (k : Int) = true := by
    unfold agrG
    rw [hT, hM]
    simp
    omega
  unfold agrV agV
  rw [hg, agrN_symm]
  simp
theorem and_comm64 (x y : Int) : bits .and .i64 x y = bits .and .i64 y x := by
  show IntKind.i64.wrap ((BitVec.ofInt 64 x &&& BitVec.ofInt 64 y).toNat : Int) = IntKind.i64.wrap ((BitVec.ofInt 64 y &&& BitVec.ofInt 64 x).toNat : Int)
  rw [BitVec.and_comm]
theorem topL_mem {mx : Bool} {zs : List Int} {x : Int} (h : x ∈ topL mx zs) : (0 ≤ x ∧ x ≤ 31) ∧ topB mx zs x = true ∧ ∀ y ∈ zs, 0 ≤ y ∧ y ≤ 31 := by
  unfold topL at h
  split at h
  · rename_i hs
    obtain ⟨h1, h2⟩ := List.mem_filter.1 h
    have hx := (distL_ok zs).2 x |>.1 h1
    exact ⟨(setsB_le hs).2 x hx, h2, (setsB_le hs).2⟩
  · cases h
/-- The law's test on a greatest set fails. -/
theorem top_max {zs : List Int} {x y : Int} (h : x ∈ topL true zs) (hy : y ∈ zs) : (!(y == x) && (bits .and .i64 y x == x)) = false := by
  obtain ⟨h1, h2, h3⟩ := topL_mem h
  have h4 := List.all_eq_true.1 h2 y hy
  rw [ok_and x y h1 (h3 y hy)] at h4
  rw [and_comm64]
  cases e1 : (y == x)
  · rw [e1] at h4
    simp at h4 ⊢
    exact h4
  · rfl
/-- The law's test on a least set fails. -/
theorem top_min {zs : List Int} {x y : Int} (h : x ∈ topL false zs) (hy : y ∈ zs) : (!(y == x) && (bits .and .i64 y x == y)) = false := by
  obtain ⟨h1, h2, h3⟩ := topL_mem h
  have h4 := List.all_eq_true.1 h2 y hy
  rw [ok_andy x y h1 (h3 y hy)] at h4
  rw [and_comm64]
  cases e1 : (y == x)
  · rw [e1] at h4
    simp at h4 ⊢
    exact h4
  · rfl
theorem eqC_symm (m x y : Int) : eqCB m x y = eqCB m y x := eqCB_symm m x y
end Go.Proofs.Ytkcckfpihpfbnaa
