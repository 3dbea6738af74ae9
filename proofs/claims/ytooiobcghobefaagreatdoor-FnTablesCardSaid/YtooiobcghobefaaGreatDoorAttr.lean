/-
  Walks of the functions on sets of columns, in the program and in the reference.
  Conditions: as each theorem says.
-/
import Derived.Test.YtooiobcghobefaaGreatDoorAttrP
namespace Go.Proofs.YtooiobcghobefaaGreatDoor
open Go.RowKit
set_option linter.unusedVariables false

theorem elemInt : Elem Tryz.prog 37 3 (.int .i64 0) 8 := ⟨Tryz.underlying37, by kernel_rfl, rfl, by decide⟩

/-- 'spec.l1In' -/
theorem l1in (x a b : Int) (r : Bool) (w : World) (hr : (decide (a ≤ x) && decide (x ≤ b)) = r) : Calls Tryz.prog 31 #[.int .i64 x, .int .i64 a, .int .i64 b] w fun e w' => e = .returned (.bool r) ∧ w = w' := by
  subst hr
  by_cases h1 : a ≤ x <;> by_cases h2 : x ≤ b
  all_goals
    go_enter Tryz.func31, Tryz.ntmps31
    go_wp2
    go_ret
    exact ⟨by simp [h1, h2], rfl⟩

/-- 'spec.l2All' -/
theorem all_any (n : Int) (w : World) (h : 0 ≤ n ∧ n ≤ 5) : Calls Tryz.prog 28 #[.int .i64 n] w fun e w' => e = .returned (.int .i64 (2 ^ n.toNat - 1)) ∧ w = w' := by
  have : n = 0 ∨ n = 1 ∨ n = 2 ∨ n = 3 ∨ n = 4 ∨ n = 5 := by omega
  rcases this with rfl | rfl | rfl | rfl | rfl | rfl
  all_goals
    clear h
    go_enter Tryz.func28, Tryz.ntmps28
    go_wp2
    go_ret
    exact ⟨rfl, rfl⟩

/-- 'spec.IsAttributes' -/
theorem specAttr (n x : Int) (w : World) : Calls Tryz.prog 44 #[.int .i64 n, .int .i64 x] w fun e w' => e = .returned (.bool (isAttrB n x)) ∧ w = w' := by
  by_cases hn : 0 ≤ n ∧ n ≤ 5
  · have h1 : (decide (0 ≤ n) && decide (n ≤ 5)) = true := by simp; omega
    have h2 : (decide (0 ≤ x) && decide (x ≤ 2 ^ n.toNat - 1)) = isAttrB n x := by
      rw [Bool.eq_iff_iff, isAttrB_iff]
      generalize (2 : Int) ^ n.toNat = M
      simp
      omega
    replace h1 := hide h1
    replace h2 := hide h2
    replace hn := hide hn
    go_enter Tryz.func44, Tryz.ntmps44
    go_wp2_with fail
    refine (l1in _ _ _ true _ h1.out).mono ?_
    rintro e w' ⟨rfl, rfl⟩
    go_wp2_with fail
    refine (all_any _ _ hn.out).mono ?_
    rintro e w' ⟨rfl, rfl⟩
    go_wp2_with fail
    refine (l1in _ _ _ _ _ h2.out).mono ?_
    rintro e w' ⟨rfl, rfl⟩
    go_wp2_with fail
    go_ret
    exact ⟨rfl, rfl⟩
  · have h1 : (decide (0 ≤ n) && decide (n ≤ 5)) = false := by simp; omega
    have h2 : isAttrB n x = false := by rw [← Bool.not_eq_true, isAttrB_iff]; omega
    replace h1 := hide h1
    rw [h2]
    clear h2 hn
    go_enter Tryz.func44, Tryz.ntmps44
    go_wp2_with fail
    refine (l1in _ _ _ false _ h1.out).mono ?_
    rintro e w' ⟨rfl, rfl⟩
    go_wp2_with fail
    go_ret
    exact ⟨rfl, rfl⟩

/-- 'impl.IsAttributes' -/
theorem implAttr (n x : Int) (w : World) : Calls Tryz.prog 38 #[.int .i64 n, .int .i64 x] w fun e w' => e = .returned (.bool (isAttrB n x)) ∧ w = w' := by
  by_cases hn : 0 ≤ n ∧ n ≤ 5
  · by_cases hx : 0 ≤ x
    · have : n = 0 ∨ n = 1 ∨ n = 2 ∨ n = 3 ∨ n = 4 ∨ n = 5 := by omega
      rcases this with rfl | rfl | rfl | rfl | rfl | rfl
      all_goals
        clear hn
        go_enter Tryz.func38, Tryz.ntmps38
        go_wp2
        go_ret
        exact ⟨ret_bool (by simp [isAttrB, hx]), rfl⟩
    · have h2 : isAttrB n x = false := by rw [← Bool.not_eq_true, isAttrB_iff]; omega
      have h3 : decide (0 ≤ x) = false := by simp; omega
      have h4 : decide (0 ≤ n) = true := by simp; omega
      have h5 : decide (n ≤ 5) = true := by simp; omega
      rw [h2]
      clear h2 hn
      go_enter Tryz.func38, Tryz.ntmps38
      go_wp2
      go_ret
      exact ⟨rfl, rfl⟩
  · have h2 : isAttrB n x = false := by rw [← Bool.not_eq_true, isAttrB_iff]; omega
    rw [h2]
    clear h2
    by_cases h0 : 0 ≤ n
    · have h4 : decide (0 ≤ n) = true := by simp; omega
      have h5 : decide (n ≤ 5) = false := by simp; omega
      clear hn
      go_enter Tryz.func38, Tryz.ntmps38
      go_wp2
      go_ret
      exact ⟨rfl, rfl⟩
    · have h4 : decide (0 ≤ n) = false := by simp; omega
      clear hn
      go_enter Tryz.func38, Tryz.ntmps38
      go_wp2
      go_ret
      exact ⟨rfl, rfl⟩

/-- 'spec.l2Valid' -/
theorem l2valid (x : Int) (w : World) : Calls Tryz.prog 56 #[.int .i64 x] w fun e w' => e = .returned (.bool (validB x)) ∧ w = w' := by
  go_enter Tryz.func56, Tryz.ntmps56
  go_wp2_with (go_at_call 44; refine (specAttr _ _ _).mono ?_; rintro e w' ⟨rfl, rfl⟩)
  go_ret
  exact ⟨rfl, rfl⟩
/-- 'impl.isSet' -/
theorem isSet_any (x : Int) (w : World) : Calls Tryz.prog 59 #[.int .i64 x] w fun e w' => e = .returned (.bool (validB x)) ∧ w = w' := by
  go_enter Tryz.func59, Tryz.ntmps59
  go_wp2_with (go_at_call 38; refine (implAttr _ _ _).mono ?_; rintro e w' ⟨rfl, rfl⟩)
  go_ret
  exact ⟨rfl, rfl⟩
/-- 'impl.has' -/
theorem has_any (x : Int) (k : Nat) (w : World) (hk : k ≤ 60) : Calls Tryz.prog 60 #[.int .i64 x, .int .i64 (k : Int)] w fun e w' => e = .returned (.bool (hasB x k)) ∧ w = w' := by
  go_enter Tryz.func60, Tryz.ntmps60
  go_wp2
  go_ret
  exact ⟨rfl, rfl⟩
end Go.Proofs.YtooiobcghobefaaGreatDoor
