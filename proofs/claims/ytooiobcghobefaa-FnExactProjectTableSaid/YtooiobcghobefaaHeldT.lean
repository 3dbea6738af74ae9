/-
  Marks in tables, found again.
  Conditions: as each theorem says.
-/
import Derived.Test.YtooiobcghobefaaHeldS
namespace Go.Proofs.Ytooiobcghobefaa
open Go.RowKit
set_option linter.unusedVariables false

set_option maxRecDepth 100000 in
theorem heldTab1 (m : Int) (A : Option Addr) (n c : Nat) (zss : List (List Int)) (w : World) (h : RowsAt w w.heap.size A n (markL 1 zss)) (hm : lens zss ≤ 3000000000) :
    Calls Try.prog 10 #[.agg #[.int .i64 m, .slice A n c], .int .i64 1] w (RetVal w (.int .i64 (1 + (lens zss : Int)))) := by
  have h' := fun t => h.later (W := w.alloc (.cells #[.int .i64 m, .slice A n c] t)) (by go_grown)
  have hh := hide (fun t => heldRows1 A n c zss (w.alloc (.cells #[.int .i64 m, .slice A n c] t)) (h' t) hm)
  generalize lens zss = L at hm hh ⊢
  have d0 : decide (1 + (L : Int) < 0) = false := by simp; omega
  clear h h'
  go_enter Try.func10, Try.ntmps10
  go_wp2_with fail
  refine (hh.out _).mono ?_
  rintro e w1 ⟨rfl, rfl⟩
  go_wp2_with fail
  go_ret
  exact ⟨rfl, (Below.refl _ _).alloc (Nat.le_refl _) _⟩
end Go.Proofs.Ytooiobcghobefaa
