/-
  The walk of the law FnExactFormatPartition: it returns true: the program's FormatPartition answers as the reference's.
  Conditions: the library's own variables hold what its text lays.
-/
import Derived.Test.YtooiobcghobefaaDoorFp
namespace Go.Proofs.YtooiobcghobefaaDoor.lFormatPartition
open Go.RowKit
set_option linter.unusedVariables false

set_option maxHeartbeats 800000 in
set_option maxRecDepth 100000 in
theorem walk (w : World) (A : Option Addr) (n c : Nat) (p : List (List Int)) (h : RowsAt w w.heap.size A n p ∧ ∀ zs ∈ p, Fits zs) (ht : Tabs w) :
    Calls Tryd.prog 5 #[.slice A n c] w (RetVal w (.bool true)) := by
  obtain ⟨h, hfit⟩ := h
  have hf := hide (show FitsAll p from hfit)
  clear hfit
  have hn := rows_bound h
  replace ht := hide ht
  by_cases hs : n + lens p ≤ 1048576
  · obtain ⟨L, hsz, _, _⟩ := szV_left (left := 1048576) (tot := n + lens p) (by omega)
    replace hsz := hide hsz
    have heq : ∀ xs : List (List Int), (xs == xs) = true := fun xs => beq_self_eq_true xs
    replace heq := hide heq
    replace hs := hide hs
    obtain ⟨V, hV⟩ : ∃ V, V = fpV p := ⟨_, rfl⟩
    have hne : (V == V) = true := beq_self_eq_true V
    replace hV := hide hV
    go_enter Tryd.func5, Tryd.ntmps5
    go_wp2_with fail
    refine (szRows _ _ _ _ _ _ h (by omega) (by omega)).mono ?_
    rintro e w1 ⟨rfl, rfl⟩
    rw [hsz.out]
    go_wp2_with fail
    refine (toRows _ _ _ _ _ h hs.out).mono ?_
    rintro e w1 ⟨A1, n1, c1, rfl, ho1, hb⟩
    obtain rfl : n1 = n := ho1.1.symm.trans h.1
    go_wp2_with fail
    refine (specFp _ _ _ p _ ho1.rows hf.out hs.out).mono ?_
    rintro e w2 ⟨rfl, hb1⟩
    rw [← hV.out]
    replace hb := below_call hb hb1
    clear hb1 ho1
    go_wp2_with fail
    refine (toRows _ _ _ _ _ (h.later hb) hs.out).mono ?_
    rintro e w3 ⟨A2, n2, c2, rfl, ho2, hb1⟩
    replace hb := below_call hb hb1
    clear hb1
    obtain rfl : n2 = n1 := ho2.1.symm.trans h.1
    go_wp2_with fail
    refine (implFp _ _ _ p _ ho2.rows hf.out hs.out (ht.out.below hb)).mono ?_
    rintro e w4 ⟨rfl, hb1⟩
    rw [← hV.out]
    replace hb := below_call hb hb1
    have ho3 := ho2.rows.later hb1
    clear hb1 ho2
    go_wp2_with fail
    refine (toRows _ _ _ _ _ (h.later hb) hs.out).mono ?_
    rintro e w5 ⟨A3, n3, c3, rfl, ho4, hb1⟩
    replace hb := below_call hb hb1
    replace ho3 := ho3.later hb1
    clear hb1
    obtain rfl : n3 = n2 := ho4.1.symm.trans h.1
    go_wp2_with fail
    refine (eqRowsQ _ _ _ _ _ _ _ _ _ ho3 ho4.rows).mono ?_
    rintro e w6 ⟨rfl, q, rfl⟩
    rw [heq.out]
    go_wp2_with fail
    go_ret
    exact ⟨rfl, below_drewN hb _⟩
  · have hsz := hide (szV_no (left := 1048576) (tot := ((n + lens p : Nat) : Int)) (by omega))
    go_enter Tryd.func5, Tryd.ntmps5
    go_wp2_with fail
    refine (szRows _ _ _ _ _ _ h (by omega) (by omega)).mono ?_
    rintro e w1 ⟨rfl, rfl⟩
    rw [hsz.out]
    go_wp2_with fail
    go_ret
    exact ⟨rfl, Below.refl _ _⟩

end Go.Proofs.YtooiobcghobefaaDoor.lFormatPartition
