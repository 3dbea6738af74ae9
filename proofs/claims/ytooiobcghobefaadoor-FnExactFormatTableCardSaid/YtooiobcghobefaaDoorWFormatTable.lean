/-
  The walk of the law FnExactFormatTable: it returns true: the program's FormatTable answers as the reference's.
  Conditions: the library's own variables hold what its text lays.
-/
import Derived.Test.YtooiobcghobefaaDoorFt
namespace Go.Proofs.YtooiobcghobefaaDoor.lFormatTable
open Go.RowKit
set_option linter.unusedVariables false

set_option maxHeartbeats 800000 in
set_option maxRecDepth 100000 in
theorem walk (w : World) (m : Int) (A : Option Addr) (n c : Nat) (zss : List (List Int)) (wm : (Lit.int .i64 m).wf = true) (h : RowsAt w w.heap.size A n zss ∧ ∀ zs ∈ zss, Fits zs) (ht : Tabs w) :
    Calls Tryd.prog 6 #[.agg #[.int .i64 m, .slice A n c]] w (RetVal w (.bool true)) := by
  obtain ⟨h, _⟩ := h
  have hn := rows_bound h
  replace ht := hide ht
  clear wm
  by_cases hs : n + lens zss ≤ 1048576
  · obtain ⟨L, hsz, _, _⟩ := szV_left (left := 1048576) (tot := n + lens zss) (by omega)
    replace hsz := hide hsz
    have heq := hide (tabEqB_same m zss)
    replace hs := hide hs
    obtain ⟨V, hV⟩ : ∃ V, V = ftV m zss := ⟨_, rfl⟩
    have hne : (V == V) = true := beq_self_eq_true V
    replace hV := hide hV
    go_enter Tryd.func6, Tryd.ntmps6
    go_wp2_with fail
    refine (szTab _ _ _ _ _ _ _ (h.later ?_) (by omega) (by omega)).mono ?_
    · go_grown
    rintro e w1 ⟨rfl, hb1⟩
    rw [hsz.out]
    obtain ⟨k0, k1, hk, hb⟩ := box2 hb1
    clear hb1
    go_wp2_with fail
    refine (toTab _ _ _ _ _ _ (h.later hb) hs.out).mono ?_
    rintro e w2 ⟨A1, n1, c1, rfl, ho1, hb1⟩
    replace k0 := cell_below hb1 k0 hk
    replace k1 := cell_below hb1 k1 hk
    replace hk := Nat.lt_of_lt_of_le hk hb1.size
    replace hb := below_call hb hb1
    clear hb1
    go_wp2_with fail
    refine (specFt _ _ _ _ _ _ ho1.rows).mono ?_
    rintro e w3 ⟨rfl, hb1⟩
    rw [← hV.out]
    clear ho1
    replace k0 := cell_below hb1 k0 hk
    replace k1 := cell_below hb1 k1 hk
    replace hk := Nat.lt_of_lt_of_le hk hb1.size
    replace hb := below_call hb hb1
    clear hb1
    go_wp2_with fail
    refine (toTab _ _ _ _ _ _ (h.later hb) hs.out).mono ?_
    rintro e w4 ⟨A2, n2, c2, rfl, ho2, hb1⟩
    replace k0 := cell_below hb1 k0 hk
    replace k1 := cell_below hb1 k1 hk
    replace hk := Nat.lt_of_lt_of_le hk hb1.size
    replace hb := below_call hb hb1
    clear hb1
    obtain rfl : n2 = n := ho2.1.symm.trans h.1
    go_wp2_with fail
    refine (implFt _ _ _ _ _ _ (ho2.rows.later ?_) (ht.out.below (hb.trans ?_))).mono ?_
    · go_grown
    · go_grown
    rintro e w5 ⟨rfl, hb1⟩
    rw [← hV.out]
    obtain ⟨j0, j1, hj, hb2⟩ := box2 hb1
    replace k0 := cell_below hb2 k0 hk
    replace k1 := cell_below hb2 k1 hk
    replace hk := Nat.lt_of_lt_of_le hk hb2.size
    replace hb := below_call hb hb2
    have hr2 := ho2.rows.later hb2
    clear hb1 hb2 ho2
    go_wp2_with fail
    go_region_law (first
      | (go_simp; go_at_call 23; refine (toTab _ _ _ _ _ _ (h.later (by exact hb.drew)) hs.out).mono ?_; rintro e w6 ⟨A3, n3, c3, rfl, ho3, hb6⟩; obtain rfl : n3 = n2 := (ho3.1.symm.trans h.1); have q0 := cell_below hb6 (by exact j0) (by exact hj); have q1 := cell_below hb6 (by exact j1) (by exact hj))
      | (go_simp; go_at_call 11; refine (eqTab _ _ _ _ _ _ _ _ zss zss _ ((show RowsAt w5.drew w5.drew.heap.size _ _ _ from hr2).later hb6) ho3.rows).mono ?_; rintro e w7 ⟨rfl, hb7⟩; rw [heq.out]))
    all_goals
      go_wp2_with fail
      go_ret
      exact ⟨rfl, below_call (below_call hb.drew hb6) hb7⟩
  · have hsz := hide (szV_no (left := 1048576) (tot := ((n + lens zss : Nat) : Int)) (by omega))
    go_enter Tryd.func6, Tryd.ntmps6
    go_wp2_with fail
    refine (szTab _ _ _ _ _ _ _ (h.later ?_) (by omega) (by omega)).mono ?_
    · go_grown
    rintro e w1 ⟨rfl, hb1⟩
    rw [hsz.out]
    go_wp2_with fail
    go_ret
    exact ⟨rfl, below_box hb1⟩

end Go.Proofs.YtooiobcghobefaaDoor.lFormatTable
