/-
  The walk of the law FnExactEqualTables: it returns true: the program's EqualTables answers as the reference's.
  Conditions: none; every argument that can be read as data.
-/
import Derived.Test.YtgoggljmifjlfaaEqT
import Derived.Test.YtgoggljmifjlfaaIsTab
namespace Go.Proofs.Ytgoggljmifjlfaa.lEqualTables
open Go.RowKit
set_option linter.unusedVariables false

set_option maxHeartbeats 1600000 in
set_option maxRecDepth 100000 in
theorem walk (w : World) (m1 : Int) (A : Option Addr) (n c : Nat) (p : List (List Int)) (wm : (Lit.int .i64 m1).wf = true) (h : RowsAt w w.heap.size A n p ∧ ∀ zs ∈ p, Fits zs) (m2 : Int) (B : Option Addr) (m d : Nat) (q : List (List Int)) (wm' : (Lit.int .i64 m2).wf = true) (h' : RowsAt w w.heap.size B m q ∧ ∀ zs ∈ q, Fits zs) :
    Calls Try.prog 12 #[.agg #[.int .i64 m1, .slice A n c], .agg #[.int .i64 m2, .slice B m d]] w (RetVal w (.bool true)) := by
  obtain ⟨hp, _⟩ := h
  obtain ⟨hq, _⟩ := h'
  have hn := rows_bound hp
  have hm := rows_bound hq
  have heq := fun m xs => tabEqB_same m xs
  replace heq := hide heq
  clear wm wm'
  by_cases hs : n + lens p ≤ 1048576
  · obtain ⟨L, hsz, g1, g2⟩ := szV_left (left := 1048576) (tot := n + lens p) (by omega)
    have hL : L ≤ 1048576 := by omega
    replace hsz := hide hsz
    replace hs := hide hs
    go_enter Try.func12, Try.ntmps12
    go_wp2_with fail
    refine (szTab _ _ _ _ _ _ _ (hp.later ?_) (by omega) (by omega)).mono ?_
    · go_grown
    rintro e w1 ⟨rfl, hb1⟩
    rw [hsz.out]
    obtain ⟨k0, k1, hk, l0, l1, hl, hb⟩ := box22 hb1
    clear hb1
    go_wp2_with fail
    by_cases hs' : ((m + lens q : Nat) : Int) ≤ L
    · obtain ⟨L2, hsz2, g3, g4⟩ := szV_left (left := (L : Int)) (tot := m + lens q) hs'
      have hs2 := hide (show m + lens q ≤ 1048576 by omega)
      replace hsz2 := hide hsz2
      clear g1 g2 g3 g4 hs'
      refine (szTab _ _ _ _ _ _ _ (hq.later hb) (by omega) (by omega)).mono ?_
      rintro e w2 ⟨rfl, hb1⟩
      rw [hsz2.out]
      replace k0 := cell_below hb1 k0 hk
      replace k1 := cell_below hb1 k1 hk
      replace l0 := cell_below hb1 l0 hl
      replace l1 := cell_below hb1 l1 hl
      replace hk := Nat.lt_of_lt_of_le hk hb1.size
      replace hl := Nat.lt_of_lt_of_le hl hb1.size
      replace hb := below_call hb hb1
      clear hb1
      go_wp2_with fail
      go_region_law (first
        | (go_simp; go_at_call_of 41 (Value.agg #[.int .i64 m1, .slice A n c]); refine (toTab _ _ _ _ _ _ (hp.later (by exact hb.drew)) hs.out).mono ?_; rintro e w3 ⟨A1, n1, c1, rfl, ho1, hb3⟩; obtain rfl : n1 = n := (ho1.1.symm.trans hp.1); have ql0 := cell_below (w := w2.drew) hb3 (by exact l0) (by exact hl); have ql1 := cell_below (w := w2.drew) hb3 (by exact l1) (by exact hl); have hbb := below_call hb.drew hb3)
        | (go_simp; go_at_call_of 41 (Value.agg #[.int .i64 m2, .slice B m d]); refine (toTab _ _ _ _ _ _ (hq.later (by exact hbb)) hs2.out).mono ?_; rintro e w4 ⟨B1, m1', d1, rfl, ho2, hb4⟩; obtain rfl : m1' = m := (ho2.1.symm.trans hq.1))
        | (go_simp; go_at_call 46; refine (specEqT _ _ _ _ _ _ _ _ p q _ (ho1.rows.later hb4) ho2.rows).mono ?_; rintro e w5 ⟨rfl, hb5⟩))
      all_goals
        replace k0 := cell_below (w := w2.drew) hb3 (by exact k0) (by exact hk)
        replace k1 := cell_below (w := w2.drew) hb3 (by exact k1) (by exact hk)
        replace l0 := ql0
        replace l1 := ql1
        clear ql0 ql1
        replace hk : _ < w3.heap.size := Nat.lt_of_lt_of_le (show _ < w2.drew.heap.size from hk) hb3.size
        replace hl : _ < w3.heap.size := Nat.lt_of_lt_of_le (show _ < w2.drew.heap.size from hl) hb3.size
        replace hb := hbb
        clear hbb hb3
        replace k0 := cell_below hb4 k0 hk
        replace k1 := cell_below hb4 k1 hk
        replace l0 := cell_below hb4 l0 hl
        replace l1 := cell_below hb4 l1 hl
        replace hk := Nat.lt_of_lt_of_le hk hb4.size
        replace hl := Nat.lt_of_lt_of_le hl hb4.size
        replace hb := below_call hb hb4
        clear hb4
        replace k0 := cell_below hb5 k0 hk
        replace k1 := cell_below hb5 k1 hk
        replace l0 := cell_below hb5 l0 hl
        replace l1 := cell_below hb5 l1 hl
        replace hk := Nat.lt_of_lt_of_le hk hb5.size
        replace hl := Nat.lt_of_lt_of_le hl hb5.size
        replace hb := below_call hb hb5
        clear hb5 ho1 ho2
        go_wp2_with fail
        refine (toTab _ _ _ _ _ _ (hp.later hb) hs.out).mono ?_
        rintro e w6 ⟨A3, n3, c3, rfl, ho3, hb6⟩
        obtain rfl := ho3.1.symm.trans hp.1
        replace k0 := cell_below hb6 k0 hk
        replace k1 := cell_below hb6 k1 hk
        replace l0 := cell_below hb6 l0 hl
        replace l1 := cell_below hb6 l1 hl
        replace hk := Nat.lt_of_lt_of_le hk hb6.size
        replace hl := Nat.lt_of_lt_of_le hl hb6.size
        replace hb := below_call hb hb6
        clear hb6
        go_wp2_with fail
        refine (toTab _ _ _ _ _ _ (hq.later ?_) hs2.out).mono ?_
        · go_grown
        rintro e w7 ⟨A4, n4, c4, rfl, ho4, hb7⟩
        obtain rfl := ho4.1.symm.trans hq.1
        obtain ⟨j0, j1, hj, hb8⟩ := box2 hb7
        clear hb7
        replace k0 := cell_below hb8 k0 hk
        replace k1 := cell_below hb8 k1 hk
        replace l0 := cell_below hb8 l0 hl
        replace l1 := cell_below hb8 l1 hl
        replace hk := Nat.lt_of_lt_of_le hk hb8.size
        replace hl := Nat.lt_of_lt_of_le hl hb8.size
        replace hb := below_call hb hb8
        have ho3r := ho3.rows.later hb8
        clear hb8 ho3
        go_wp2_with fail
        refine (implEqT _ _ _ _ _ _ _ _ p q _ (ho3r.later ?_) (ho4.rows.later ?_)).mono ?_
        · go_grown
        · go_grown
        rintro e w8 ⟨rfl, hb9⟩
        obtain ⟨i0, i1, hi, hb10⟩ := box2 hb9
        clear hb9
        replace k0 := cell_below hb10 k0 hk
        replace k1 := cell_below hb10 k1 hk
        replace l0 := cell_below hb10 l0 hl
        replace l1 := cell_below hb10 l1 hl
        replace j0 := cell_below hb10 j0 hj
        replace j1 := cell_below hb10 j1 hj
        replace hk := Nat.lt_of_lt_of_le hk hb10.size
        replace hl := Nat.lt_of_lt_of_le hl hb10.size
        replace hj := Nat.lt_of_lt_of_le hj hb10.size
        replace hb := below_call hb hb10
        replace ho3r := ho3r.later hb10
        have ho4r := ho4.rows.later hb10
        clear hb10 ho4
        go_wp2_with fail
        go_region_law (first
          | (go_simp; go_at_call 41; refine (toTab _ _ _ _ _ _ (hp.later (by exact hb.drew)) hs.out).mono ?_; rintro e w9 ⟨A5, n5, c5, rfl, ho5, hb11⟩; obtain rfl := (ho5.1.symm.trans hp.1); have qj0 := cell_below (w := w8.drew) hb11 (by exact j0) (by exact hj); have qj1 := cell_below (w := w8.drew) hb11 (by exact j1) (by exact hj))
          | (go_simp; go_at_call 43; refine (eqTab _ _ _ _ _ _ _ _ p p _ ((show RowsAt w8.drew w8.drew.heap.size _ _ _ from ho3r).later hb11) ho5.rows).mono ?_; rintro e w10 ⟨rfl, hb12⟩; rw [heq.out]))
        all_goals
          replace hb := below_call (below_call hb.drew hb11) hb12
          replace i0 := cell_below hb12 (cell_below (w := w8.drew) hb11 (by exact i0) (by exact hi)) (Nat.lt_of_lt_of_le (show _ < w8.drew.heap.size from hi) hb11.size)
          replace i1 := cell_below hb12 (cell_below (w := w8.drew) hb11 (by exact i1) (by exact hi)) (Nat.lt_of_lt_of_le (show _ < w8.drew.heap.size from hi) hb11.size)
          replace l0 := cell_below hb12 (cell_below (w := w8.drew) hb11 (by exact l0) (by exact hl)) (Nat.lt_of_lt_of_le (show _ < w8.drew.heap.size from hl) hb11.size)
          replace l1 := cell_below hb12 (cell_below (w := w8.drew) hb11 (by exact l1) (by exact hl)) (Nat.lt_of_lt_of_le (show _ < w8.drew.heap.size from hl) hb11.size)
          replace ho4r := ((show RowsAt w8.drew w8.drew.heap.size _ _ _ from ho4r).later hb11).later hb12
          replace hi : _ < w10.heap.size := Nat.lt_of_lt_of_le (Nat.lt_of_lt_of_le (show _ < w8.drew.heap.size from hi) hb11.size) hb12.size
          clear qj0 qj1 hb11 hb12 ho3r ho5 j0 j1 k0 k1
          go_wp2_with fail
          go_region_law (first
            | (go_simp; go_at_call 41; refine (toTab _ _ _ _ _ _ (hq.later (by exact hb.drew)) hs2.out).mono ?_; rintro e w11 ⟨A6, n6, c6, rfl, ho6, hb13⟩; obtain rfl := (ho6.1.symm.trans hq.1); have qi0 := cell_below (w := w10.drew) hb13 (by exact i0) (by exact hi); have qi1 := cell_below (w := w10.drew) hb13 (by exact i1) (by exact hi))
            | (go_simp; go_at_call 43; refine (eqTab _ _ _ _ _ _ _ _ q q _ ((show RowsAt w10.drew w10.drew.heap.size _ _ _ from ho4r).later hb13) ho6.rows).mono ?_; rintro e w12 ⟨rfl, hb14⟩; rw [heq.out]))
          all_goals
            go_wp2_with fail
            go_ret
            exact ⟨rfl, below_call (below_call hb.drew hb13) hb14⟩
    · have hsz2 := hide (szV_no (left := (L : Int)) (tot := ((m + lens q : Nat) : Int)) (by omega))
      clear g1 g2 hs'
      refine (szTab _ _ _ _ _ _ _ (hq.later hb) (by omega) (by omega)).mono ?_
      rintro e w2 ⟨rfl, hb1⟩
      rw [hsz2.out]
      go_wp2_with fail
      go_ret
      exact ⟨rfl, below_call hb hb1⟩
  · have hsz := hide (szV_no (left := 1048576) (tot := ((n + lens p : Nat) : Int)) (by omega))
    go_enter Try.func12, Try.ntmps12
    go_wp2_with fail
    refine (szTab _ _ _ _ _ _ _ (hp.later ?_) (by omega) (by omega)).mono ?_
    · go_grown
    rintro e w1 ⟨rfl, hb1⟩
    rw [hsz.out]
    go_wp2_with fail
    go_ret
    exact ⟨rfl, (box22 hb1).2.2.2.2.2.2⟩

end Go.Proofs.Ytgoggljmifjlfaa.lEqualTables
