/-
  Walks of IsDep, toDep, in the program and in the reference.
  Conditions: as each theorem says.
-/
import Derived.Test.YtkcckfpihpfbnaaAttr
namespace Go.Proofs.Ytkcckfpihpfbnaa
open Go.RowKit
set_option linter.unusedVariables false

/-- A dependency as a value. -/
def depV (l r : Int) : Value := .agg #[.int .i64 l, .int .i64 r]
def isDepB (n l r : Int) : Bool := decide (1 ≤ n) && isAttrB n l && decide (0 ≤ r) && decide (r < n)

set_option maxRecDepth 100000 in
theorem toDep_any (l r : Int) (w : World) : Calls Try.prog 38 #[.agg #[.int .i64 l, .int .i64 r]] w (RetVal w (.agg #[.int .i64 l, .int .i64 r])) := by
  go_enter Try.func38, Try.ntmps38
  go_wp2
  go_returns
  refine ⟨rfl, ?_⟩
  go_grown

set_option maxRecDepth 100000 in
theorem implDep (n l r : Int) (w : World) : Calls Try.prog 120 #[.int .i64 n, .agg #[.int .i64 l, .int .i64 r]] w (RetVal w (.bool (isDepB n l r))) := by
  unfold isDepB
  rcases h1 : decide (1 ≤ n) with _ | _
  · go_enter Try.func120, Try.ntmps120
    go_wp2
    go_ret
    exact ⟨rfl, by go_grown⟩
  · rcases h2 : isAttrB n l with _ | _
    · replace h2 := hide h2
      go_enter Try.func120, Try.ntmps120
      go_wp2_with (go_at_call 65; refine (implAttr _ _ _).mono ?_; rintro e w' ⟨rfl, rfl⟩; rw [h2.out])
      go_ret
      exact ⟨rfl, by go_grown⟩
    · replace h2 := hide h2
      rcases h3 : decide (0 ≤ r) with _ | _
      · go_enter Try.func120, Try.ntmps120
        go_wp2_with (go_at_call 65; refine (implAttr _ _ _).mono ?_; rintro e w' ⟨rfl, rfl⟩; rw [h2.out])
        go_ret
        exact ⟨rfl, by go_grown⟩
      · go_enter Try.func120, Try.ntmps120
        go_wp2_with (go_at_call 65; refine (implAttr _ _ _).mono ?_; rintro e w' ⟨rfl, rfl⟩; rw [h2.out])
        go_ret
        exact ⟨ret_bool (by simp), by go_grown⟩

set_option maxRecDepth 100000 in
theorem specDep (n l r : Int) (w : World) : Calls Try.prog 91 #[.int .i64 n, .agg #[.int .i64 l, .int .i64 r]] w (RetVal w (.bool (isDepB n l r))) := by
  by_cases hc : 1 ≤ n ∧ n ≤ 5
  · have g1 : (decide (1 ≤ n) && decide (n ≤ 5)) = true := by simp; omega
    rcases h2 : isAttrB n l with _ | _
    · have e : isDepB n l r = false := by simp [isDepB, h2]
      rw [e]
      replace h2 := hide h2
      replace g1 := hide g1
      clear e
      go_enter Try.func91, Try.ntmps91
      go_wp2_with (first
        | (go_at_call 66; refine (specAttr _ _ _).mono ?_; rintro e w' ⟨rfl, rfl⟩; rw [h2.out])
        | (go_at_call 83; refine (l1in _ _ _ true _ g1.out).mono ?_; rintro e w' ⟨rfl, rfl⟩))
      go_ret
      exact ⟨rfl, by go_grown⟩
    · have g2 : (decide (0 ≤ r) && decide (r ≤ n - 1)) = isDepB n l r := by
        rw [isDepB, h2, Bool.eq_iff_iff]
        simp
        omega
      replace h2 := hide h2
      replace g1 := hide g1
      replace g2 := hide g2
      go_enter Try.func91, Try.ntmps91
      go_wp2_with fail
      refine (l1in _ _ _ true _ g1.out).mono ?_
      rintro e w' ⟨rfl, rfl⟩
      go_wp2_with fail
      refine (specAttr _ _ _).mono ?_
      rintro e w' ⟨rfl, rfl⟩
      rw [h2.out]
      go_wp2_with fail
      refine (l1in _ _ _ _ _ g2.out).mono ?_
      rintro e w' ⟨rfl, rfl⟩
      go_wp2
      go_ret
      exact ⟨rfl, by go_grown⟩
  · have g1 : (decide (1 ≤ n) && decide (n ≤ 5)) = false := by simp; omega
    have e : isDepB n l r = false := by
      rw [isDepB]
      rcases h2 : isAttrB n l with _ | _
      · simp
      · rw [isAttrB_iff] at h2
        simp; omega
    rw [e]
    replace g1 := hide g1
    clear e hc
    go_enter Try.func91, Try.ntmps91
    go_wp2_with (go_at_call 83; refine (l1in _ _ _ false _ g1.out).mono ?_; rintro e w' ⟨rfl, rfl⟩)
    go_ret
    exact ⟨rfl, by go_grown⟩
end Go.Proofs.Ytkcckfpihpfbnaa
