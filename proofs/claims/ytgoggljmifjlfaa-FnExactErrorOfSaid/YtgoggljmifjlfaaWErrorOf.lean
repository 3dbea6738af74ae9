/-
  The walk of the law FnExactErrorOf: it returns true: the program's ErrorOf answers as the reference's.
  Conditions: none; every argument that can be read as data.
-/
import Derived.Test.YtgoggljmifjlfaaErr
namespace Go.Proofs.Ytgoggljmifjlfaa.lErrorOf
open Go.RowKit
set_option linter.unusedVariables false

set_option maxHeartbeats 800000 in
set_option maxRecDepth 100000 in
theorem walk (w : World) (A : Option Addr) (n c : Nat) (zss : List (List Int)) (h : RowsAt w w.heap.size A n zss ∧ ∀ zs ∈ zss, Fits zs) :
    Calls Try.prog 8 #[.slice A n c] w (RetVal w (.bool true)) := by
  obtain ⟨h, _⟩ := h
  have hn := rows_bound h
  by_cases hs : n + lens zss ≤ 1048576
  · obtain ⟨L, hsz, _, _⟩ := szV_left (left := 1048576) (tot := n + lens zss) (by omega)
    replace hsz := hide hsz
    have heq : ∀ xs : List (List Int), (xs == xs) = true := fun xs => beq_self_eq_true xs
    replace heq := hide heq
    replace hs := hide hs
    go_enter Try.func8, Try.ntmps8
    go_wp2_with fail
    refine (szRows _ _ _ _ _ _ h (by omega) (by omega)).mono ?_
    rintro e w1 ⟨rfl, rfl⟩
    rw [hsz.out]
    go_wp2_with fail
    refine (toRows _ _ _ _ _ h hs.out).mono ?_
    rintro e w1 ⟨A1, n1, c1, rfl, ho1, hb1⟩
    obtain rfl : n1 = n := ho1.1.symm.trans h.1
    go_wp2_with fail
    refine (specErr _ _ _ _ _ ho1.rows hs.out).mono ?_
    rintro e w2 ⟨rfl, rfl⟩
    have h1 := h.later hb1
    go_wp2_with fail
    refine (toRows _ _ _ _ _ h1 hs.out).mono ?_
    rintro e w2 ⟨A2, n2, c2, rfl, ho2, hb2⟩
    obtain rfl : n2 = n1 := ho2.1.symm.trans h.1
    go_wp2_with fail
    refine (implErr _ _ _ _ _ ho2.rows hs.out).mono ?_
    rintro e w3 ⟨rfl, rfl⟩
    have h2 := h1.later hb2
    go_wp2_with fail
    refine (toRows _ _ _ _ _ h2 hs.out).mono ?_
    rintro e w3 ⟨A3, n3, c3, rfl, ho3, hb3⟩
    obtain rfl : n3 = n2 := ho3.1.symm.trans h.1
    go_wp2_with fail
    refine (eqRowsQ _ _ _ _ _ _ _ _ _ (ho2.rows.later hb3) ho3.rows).mono ?_
    rintro e w4 ⟨rfl, q, rfl⟩
    rw [heq.out]
    go_wp2_with fail
    go_ret
    exact ⟨rfl, below_drewN (below_call (below_call hb1 hb2) hb3) _⟩
  · have hsz := hide (szV_no (left := 1048576) (tot := ((n + lens zss : Nat) : Int)) (by omega))
    go_enter Try.func8, Try.ntmps8
    go_wp2_with fail
    refine (szRows _ _ _ _ _ _ h (by omega) (by omega)).mono ?_
    rintro e w1 ⟨rfl, rfl⟩
    rw [hsz.out]
    go_wp2_with fail
    go_ret
    exact ⟨rfl, Below.refl _ _⟩

end Go.Proofs.Ytgoggljmifjlfaa.lErrorOf
