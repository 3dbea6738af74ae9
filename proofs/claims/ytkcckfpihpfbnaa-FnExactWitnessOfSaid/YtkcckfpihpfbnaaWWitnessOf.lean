/-
  The walk of the law FnExactWitnessOf: it returns true: the program's WitnessOf answers as the reference's.
  Conditions: none; every argument that can be read as data.
-/
import Derived.Test.YtkcckfpihpfbnaaIsTab2
import Derived.Test.YtkcckfpihpfbnaaWit3
namespace Go.Proofs.Ytkcckfpihpfbnaa.lWitnessOf
open Go.RowKit
set_option linter.unusedVariables false

set_option maxHeartbeats 1600000 in
set_option maxRecDepth 100000 in
theorem walk (w : World) (m : Int) (A : Option Addr) (n c : Nat) (zss : List (List Int)) (wm : (Lit.int .i64 m).wf = true) (h : RowsAt w w.heap.size A n zss ∧ ∀ zs ∈ zss, Fits zs)
    (a1 : Int) (w1 : (Lit.int .i64 a1).wf = true) (x2 y2 : Int) (wx2 : (Lit.int .i64 x2).wf = true) (wy2 : (Lit.int .i64 y2).wf = true) :
    Calls Try.prog 5 #[.agg #[.int .i64 m, .slice A n c], .int .i64 a1, .agg #[.int .i64 x2, .int .i64 y2]] w (RetVal w (.bool true)) := by
  obtain ⟨h, _⟩ := h
  have hn := rows_bound h
  clear wm w1 wx2 wy2
  by_cases hs : n + lens zss ≤ 1048576
  · obtain ⟨LL, hsz, _, _⟩ := szV_left (left := 1048576) (tot := n + lens zss) (by omega)
    replace hsz := hide hsz
    have heq := hide (tabEqB_same m zss)
    replace hs := hide hs
    go_enter Try.func5, Try.ntmps5
    go_wp2_with fail
    refine (szTab _ _ _ _ _ _ _ (h.later ?_) (by omega) (by omega)).mono ?_
    · go_grown
    rintro e w1 ⟨rfl, hb1⟩
    rw [hsz.out]
    obtain ⟨k0, k1, hk, l0, l1, hl, hb⟩ := box22 hb1
    clear hb1
    go_wp2_with fail
    go_region_law (first
      | (go_simp; go_at_call 35; refine (toTab _ _ _ _ _ _ (h.later (by exact hb.drew)) hs.out).mono ?_; rintro e w3 ⟨A1, n1, c1, rfl, ho1, hb3⟩; obtain rfl : n1 = n := (ho1.1.symm.trans h.1); have ql0 := cell_below (w := w1.drew) hb3 (by exact l0) (by exact hl); have ql1 := cell_below (w := w1.drew) hb3 (by exact l1) (by exact hl); have hbb := below_call hb.drew hb3)
      | (go_simp; go_at_call 38; refine (toDep_any _ _ _).mono ?_; rintro e w4 ⟨rfl, hb4⟩)
      | (go_simp; go_at_call 37; refine (specWit _ _ _ _ _ _ _ _ _ (ho1.rows.later hb4)).mono ?_; rintro e w5 ⟨x, y, f, hW, rfl, hb5⟩))
    all_goals
      replace hW := hide hW
      replace k0 := cell_below (w := w1.drew) hb3 (by exact k0) (by exact hk)
      replace k1 := cell_below (w := w1.drew) hb3 (by exact k1) (by exact hk)
      replace l0 := ql0
      replace l1 := ql1
      clear ql0 ql1
      replace hk : _ < w3.heap.size := Nat.lt_of_lt_of_le (show _ < w1.drew.heap.size from hk) hb3.size
      replace hl : _ < w3.heap.size := Nat.lt_of_lt_of_le (show _ < w1.drew.heap.size from hl) hb3.size
      replace hb := hbb
      clear hbb hb3
      replace k0 := cell_below hb4 k0 hk
      replace k1 := cell_below hb4 k1 hk
      replace l0 := cell_below hb4 l0 hl
      replace l1 := cell_below hb4 l1 hl
      replace hk := Nat.lt_of_lt_of_le hk hb4.size
      replace hl := Nat.lt_of_lt_of_le hl hb4.size
      replace hb := below_call hb hb4
      clear hb4
      replace k0 := cell_below hb5 k0 hk
      replace k1 := cell_below hb5 k1 hk
      replace l0 := cell_below hb5 l0 hl
      replace l1 := cell_below hb5 l1 hl
      replace hk := Nat.lt_of_lt_of_le hk hb5.size
      replace hl := Nat.lt_of_lt_of_le hl hb5.size
      replace hb := below_call hb hb5
      clear hb5 ho1
      go_wp2_with fail
      refine (toTab _ _ _ _ _ _ (h.later hb) hs.out).mono ?_
      rintro e w6 ⟨A3, n3, c3, rfl, ho3, hb6⟩
      obtain rfl := ho3.1.symm.trans h.1
      replace k0 := cell_below hb6 k0 hk
      replace k1 := cell_below hb6 k1 hk
      replace l0 := cell_below hb6 l0 hl
      replace l1 := cell_below hb6 l1 hl
      replace hk := Nat.lt_of_lt_of_le hk hb6.size
      replace hl := Nat.lt_of_lt_of_le hl hb6.size
      replace hb := below_call hb hb6
      clear hb6
      go_wp2_with fail
      obtain ⟨wb, hwb⟩ : ∃ wb, wb = w6.alloc (.cells #[.int .i64 m, .slice A3 n3 c3] 26) := ⟨_, rfl⟩
      have hbx : Below w6.heap.size w6 wb := by rw [hwb]; go_grown
      have j0 : wb.cell? ⟨w6.heap.size, 0, none⟩ = some (.int .i64 m) := by rw [hwb, World.cell?_alloc_at _ _ _ _ rfl]; rfl
      have j1 : wb.cell? ⟨w6.heap.size, 1, none⟩ = some (.slice A3 n3 c3) := by rw [hwb, World.cell?_alloc_at _ _ _ _ rfl]; rfl
      have hj : w6.heap.size < wb.heap.size := by rw [hwb]; simp
      have hr3 := ho3.rows.later hbx
      replace k0 := cell_below hbx k0 hk
      replace k1 := cell_below hbx k1 hk
      replace l0 := cell_below hbx l0 hl
      replace l1 := cell_below hbx l1 hl
      replace hk := Nat.lt_of_lt_of_le hk hbx.size
      replace hl := Nat.lt_of_lt_of_le hl hbx.size
      replace hb := below_call hb hbx
      rw [← hwb]
      clear hwb hbx ho3
      go_region_law (first
        | (go_simp; go_at_call 38; refine (toDep_any _ _ _).mono ?_; rintro e w7 ⟨rfl, hb7⟩; have q0 := cell_below (w := wb.drew) hb7 (by exact j0) (by exact hj); have q1 := cell_below (w := wb.drew) hb7 (by exact j1) (by exact hj))
        | (go_simp; go_at_call 39; refine (implWit _ _ _ _ _ _ _ _ _ ((show RowsAt wb.drew wb.drew.heap.size _ _ _ from hr3).later hb7)).mono ?_; rintro e w8 ⟨x', y', f', hW', rfl, hb8⟩))
      all_goals
        obtain ⟨rfl, rfl, rfl⟩ := hW'.uniq hW.out
        clear hW hW'
        replace hr3 := (show RowsAt wb.drew wb.drew.heap.size _ _ _ from hr3).later hb7
        replace hr3 := hr3.later hb8
        replace k0 := cell_below (w := wb.drew) hb7 (by exact k0) (by exact hk)
        replace k1 := cell_below (w := wb.drew) hb7 (by exact k1) (by exact hk)
        replace l0 := cell_below (w := wb.drew) hb7 (by exact l0) (by exact hl)
        replace l1 := cell_below (w := wb.drew) hb7 (by exact l1) (by exact hl)
        replace j0 := q0
        replace j1 := q1
        clear q0 q1
        replace hk : _ < w7.heap.size := Nat.lt_of_lt_of_le (show _ < wb.drew.heap.size from hk) hb7.size
        replace hl : _ < w7.heap.size := Nat.lt_of_lt_of_le (show _ < wb.drew.heap.size from hl) hb7.size
        replace hj : _ < w7.heap.size := Nat.lt_of_lt_of_le (show _ < wb.drew.heap.size from hj) hb7.size
        replace k0 := cell_below hb8 k0 hk
        replace k1 := cell_below hb8 k1 hk
        replace l0 := cell_below hb8 l0 hl
        replace l1 := cell_below hb8 l1 hl
        replace j0 := cell_below hb8 j0 hj
        replace j1 := cell_below hb8 j1 hj
        replace hk := Nat.lt_of_lt_of_le hk hb8.size
        replace hl := Nat.lt_of_lt_of_le hl hb8.size
        replace hj := Nat.lt_of_lt_of_le hj hb8.size
        replace hb := below_call (below_call hb.drew hb7) hb8
        clear hb7 hb8
        go_wp2_with fail
        go_region_law (first
          | (go_simp; go_at_call 35; refine (toTab _ _ _ _ _ _ (h.later (by exact hb.drew)) hs.out).mono ?_; rintro e w9 ⟨A4, n4, c4, rfl, ho4, hb9⟩; obtain rfl : n4 = _ := (ho4.1.symm.trans h.1); have q0 := cell_below (w := w8.drew) hb9 (by exact j0) (by exact hj); have q1 := cell_below (w := w8.drew) hb9 (by exact j1) (by exact hj))
          | (go_simp; go_at_call 36; refine (eqTab _ _ _ _ _ _ _ _ zss zss _ ((show RowsAt w8.drew w8.drew.heap.size _ _ _ from hr3).later hb9) ho4.rows).mono ?_; rintro e w10 ⟨rfl, hb10⟩; rw [heq.out]))
        all_goals
          go_wp2_with fail
          go_ret
          exact ⟨rfl, below_call (below_call hb.drew hb9) hb10⟩
  · have hsz := hide (szV_no (left := 1048576) (tot := ((n + lens zss : Nat) : Int)) (by omega))
    go_enter Try.func5, Try.ntmps5
    go_wp2_with fail
    refine (szTab _ _ _ _ _ _ _ (h.later ?_) (by omega) (by omega)).mono ?_
    · go_grown
    rintro e w1 ⟨rfl, hb1⟩
    rw [hsz.out]
    obtain ⟨k0, k1, hk, l0, l1, hl, hb⟩ := box22 hb1
    go_wp2_with fail
    go_ret
    exact ⟨rfl, hb⟩

end Go.Proofs.Ytkcckfpihpfbnaa.lWitnessOf
