/-
  Walks of FormatDep, in the program and in the reference.
  Conditions: as each theorem says.
-/
import Derived.Test.YtgoggljmifjlfaaFmt
import Derived.Test.YtgoggljmifjlfaaDep
namespace Go.Proofs.Ytgoggljmifjlfaa
open Go.RowKit
set_option linter.unusedVariables false

/-- What FormatDep answers. -/
def fmtD (l r : Int) : List UInt8 := if validB l = true ∧ 0 ≤ r ∧ r ≤ 4 then fmtA l ++ 62 :: fmtA (2 ^ r.toNat) else []
theorem fmtD_yes {l r : Int} (h : validB l = true ∧ 0 ≤ r ∧ r ≤ 4) : fmtD l r = fmtA l ++ 62 :: fmtA (2 ^ r.toNat) := if_pos h
theorem fmtD_no {l r : Int} (h : ¬ (validB l = true ∧ 0 ≤ r ∧ r ≤ 4)) : fmtD l r = [] := if_neg h

set_option maxHeartbeats 1600000 in
set_option maxRecDepth 100000 in
theorem specFmtD (l r : Int) (w : World) : Calls Try.prog 29 #[.agg #[.int .i64 l, .int .i64 r]] w (RetVal w (str (fmtD l r))) := by
  rcases validB_or l with hv | hv
  · have d1 : (fmtA l == []) = false := beq_eq_false_iff_ne.2 (fmtA_ne l hv)
    by_cases hr : 0 ≤ r ∧ r ≤ 4
    · have g1 : (decide (0 ≤ r) && decide (r ≤ 4)) = true := by simp; omega
      have e := hide (fmtD_yes ⟨hv, hr.1, hr.2⟩)
      have : r = 0 ∨ r = 1 ∨ r = 2 ∨ r = 3 ∨ r = 4 := by omega
      have hadd := fun X : World => str_add (P := Try.prog) 9 (fmtA l) [62] (by have := fmtA_len l; simp; omega) X
      have hadd' : ∀ X : World, (binOp .add 9 (str (fmtA l)) (.string ⟨#[62]⟩)).run Try.prog X = .ok (str (fmtA l ++ [62])) X := hadd
      have hadd2 := fun (k : Int) (X : World) => str_add (P := Try.prog) 9 (fmtA l ++ [62]) (fmtA k) (by have := fmtA_len l; have := fmtA_len k; simp; omega) X
      replace g1 := hide g1
      replace hv := hide hv
      clear hr hadd
      rcases this with rfl | rfl | rfl | rfl | rfl
      all_goals
        go_enter Try.func29, Try.ntmps29
        go_wp2_with (first
          | (go_at_call 15; refine (specFmt _ _).mono ?_; rintro e w2 ⟨rfl, rfl⟩)
          | (go_at_call 58; refine (l1in _ _ _ true _ g1.out).mono ?_; rintro e w2 ⟨rfl, rfl⟩))
        go_ret
        exact ⟨ret_str (by rw [e.out]; try rfl), by go_grown⟩
    · have g1 : (decide (0 ≤ r) && decide (r ≤ 4)) = false := by simp; omega
      have e := hide (fmtD_no (l := l) (r := r) (by omega))
      replace g1 := hide g1
      replace hv := hide hv
      clear hr
      go_enter Try.func29, Try.ntmps29
      go_wp2_with (first
        | (go_at_call 15; refine (specFmt _ _).mono ?_; rintro e w2 ⟨rfl, rfl⟩)
        | (go_at_call 58; refine (l1in _ _ _ false _ g1.out).mono ?_; rintro e w2 ⟨rfl, rfl⟩))
      go_ret
      exact ⟨ret_str (by rw [e.out]; try rfl), by go_grown⟩
  · have e := hide (fmtD_no (l := l) (r := r) (by rw [hv]; simp))
    have e2 := hide (fmtA_bad hv)
    clear hv
    go_enter Try.func29, Try.ntmps29
    go_wp2_with (first
      | (go_at_call 15; refine (specFmt _ _).mono ?_; rintro e w2 ⟨rfl, rfl⟩; rw [e2.out]))
    go_ret
    exact ⟨ret_str (by rw [e.out]; try rfl), by go_grown⟩

set_option maxHeartbeats 1600000 in
set_option maxRecDepth 100000 in
theorem implFmtD (l r : Int) (w : World) : Calls Try.prog 31 #[.agg #[.int .i64 l, .int .i64 r]] w (RetVal w (str (fmtD l r))) := by
  rcases validB_or l with hv | hv
  · by_cases h0 : r < 0
    · have e := hide (fmtD_no (l := l) (r := r) (by omega))
      replace hv := hide hv
      go_enter Try.func31, Try.ntmps31
      go_wp2_with (first
        | (go_at_call 55; refine (isSet_any _ _).mono ?_; rintro e w2 ⟨rfl, rfl⟩; rw [hv.out]))
      go_ret
      exact ⟨ret_str (by rw [e.out]; try rfl), by go_grown⟩
    · by_cases h5 : 5 ≤ r
      · have e := hide (fmtD_no (l := l) (r := r) (by omega))
        replace hv := hide hv
        go_enter Try.func31, Try.ntmps31
        go_wp2_with (first
          | (go_at_call 55; refine (isSet_any _ _).mono ?_; rintro e w2 ⟨rfl, rfl⟩; rw [hv.out]))
        go_ret
        exact ⟨ret_str (by rw [e.out]; try rfl), by go_grown⟩
      · have e := hide (fmtD_yes (l := l) (r := r) ⟨hv, by omega, by omega⟩)
        have : r = 0 ∨ r = 1 ∨ r = 2 ∨ r = 3 ∨ r = 4 := by omega
        have hadd' : ∀ X : World, (binOp .add 9 (str (fmtA l)) (.string ⟨#[62]⟩)).run Try.prog X = .ok (str (fmtA l ++ [62])) X := fun X : World => str_add (P := Try.prog) 9 (fmtA l) [62] (by have := fmtA_len l; simp; omega) X
        have hadd2 := fun (k : Int) (X : World) => str_add (P := Try.prog) 9 (fmtA l ++ [62]) (fmtA k) (by have := fmtA_len l; have := fmtA_len k; simp; omega) X
        replace hv := hide hv
        clear h0 h5
        rcases this with rfl | rfl | rfl | rfl | rfl
        · go_enter Try.func31, Try.ntmps31
          go_wp2_with (first
            | (go_at_call 55; refine (isSet_any _ _).mono ?_; rintro e w2 ⟨rfl, rfl⟩; rw [hv.out]))
          obtain ⟨wb, hwb⟩ : ∃ wb, wb = w.alloc (.cells #[.int .i64 l, .int .i64 0] 40) := ⟨_, rfl⟩
          have hbx : Below w.heap.size w wb := by rw [hwb]; go_grown
          have hk : w.heap.size < wb.heap.size := by rw [hwb]; simp
          have k0 : wb.cell? ⟨w.heap.size, 0, none⟩ = some (.int .i64 l) := by rw [hwb, World.cell?_alloc_at _ _ _ _ rfl]; rfl
          have k1 : wb.cell? ⟨w.heap.size, 1, none⟩ = some (.int .i64 0) := by rw [hwb, World.cell?_alloc_at _ _ _ _ rfl]; rfl
          rw [← hwb]
          clear hwb
          go_region_law (first
            | (go_simp; go_at_call_of 16 (Value.int .i64 l); refine (implFmt _ _).mono ?_; rintro e w2 ⟨rfl, hb2⟩; have q1 := cell_below (w := wb.drew) hb2 (by exact k1) (by exact hk))
            | (go_simp; go_at_call 16; refine (implFmt _ _).mono ?_; rintro e w3 ⟨rfl, hb3⟩))
          all_goals
            go_wp2_with fail
            go_ret
            exact ⟨ret_str (by rw [e.out]; try rfl), below_call (below_call hbx.drew hb2) hb3⟩
        · go_enter Try.func31, Try.ntmps31
          go_wp2_with (first
            | (go_at_call 55; refine (isSet_any _ _).mono ?_; rintro e w2 ⟨rfl, rfl⟩; rw [hv.out]))
          obtain ⟨wb, hwb⟩ : ∃ wb, wb = w.alloc (.cells #[.int .i64 l, .int .i64 1] 40) := ⟨_, rfl⟩
          have hbx : Below w.heap.size w wb := by rw [hwb]; go_grown
          have hk : w.heap.size < wb.heap.size := by rw [hwb]; simp
          have k0 : wb.cell? ⟨w.heap.size, 0, none⟩ = some (.int .i64 l) := by rw [hwb, World.cell?_alloc_at _ _ _ _ rfl]; rfl
          have k1 : wb.cell? ⟨w.heap.size, 1, none⟩ = some (.int .i64 1) := by rw [hwb, World.cell?_alloc_at _ _ _ _ rfl]; rfl
          rw [← hwb]
          clear hwb
          go_region_law (first
            | (go_simp; go_at_call_of 16 (Value.int .i64 l); refine (implFmt _ _).mono ?_; rintro e w2 ⟨rfl, hb2⟩; have q1 := cell_below (w := wb.drew) hb2 (by exact k1) (by exact hk))
            | (go_simp; go_at_call 16; refine (implFmt _ _).mono ?_; rintro e w3 ⟨rfl, hb3⟩))
          all_goals
            go_wp2_with fail
            go_ret
            exact ⟨ret_str (by rw [e.out]; try rfl), below_call (below_call hbx.drew hb2) hb3⟩
        · go_enter Try.func31, Try.ntmps31
          go_wp2_with (first
            | (go_at_call 55; refine (isSet_any _ _).mono ?_; rintro e w2 ⟨rfl, rfl⟩; rw [hv.out]))
          obtain ⟨wb, hwb⟩ : ∃ wb, wb = w.alloc (.cells #[.int .i64 l, .int .i64 2] 40) := ⟨_, rfl⟩
          have hbx : Below w.heap.size w wb := by rw [hwb]; go_grown
          have hk : w.heap.size < wb.heap.size := by rw [hwb]; simp
          have k0 : wb.cell? ⟨w.heap.size, 0, none⟩ = some (.int .i64 l) := by rw [hwb, World.cell?_alloc_at _ _ _ _ rfl]; rfl
          have k1 : wb.cell? ⟨w.heap.size, 1, none⟩ = some (.int .i64 2) := by rw [hwb, World.cell?_alloc_at _ _ _ _ rfl]; rfl
          rw [← hwb]
          clear hwb
          go_region_law (first
            | (go_simp; go_at_call_of 16 (Value.int .i64 l); refine (implFmt _ _).mono ?_; rintro e w2 ⟨rfl, hb2⟩; have q1 := cell_below (w := wb.drew) hb2 (by exact k1) (by exact hk))
            | (go_simp; go_at_call 16; refine (implFmt _ _).mono ?_; rintro e w3 ⟨rfl, hb3⟩))
          all_goals
            go_wp2_with fail
            go_ret
            exact ⟨ret_str (by rw [e.out]; try rfl), below_call (below_call hbx.drew hb2) hb3⟩
        · go_enter Try.func31, Try.ntmps31
          go_wp2_with (first
            | (go_at_call 55; refine (isSet_any _ _).mono ?_; rintro e w2 ⟨rfl, rfl⟩; rw [hv.out]))
          obtain ⟨wb, hwb⟩ : ∃ wb, wb = w.alloc (.cells #[.int .i64 l, .int .i64 3] 40) := ⟨_, rfl⟩
          have hbx : Below w.heap.size w wb := by rw [hwb]; go_grown
          have hk : w.heap.size < wb.heap.size := by rw [hwb]; simp
          have k0 : wb.cell? ⟨w.heap.size, 0, none⟩ = some (.int .i64 l) := by rw [hwb, World.cell?_alloc_at _ _ _ _ rfl]; rfl
          have k1 : wb.cell? ⟨w.heap.size, 1, none⟩ = some (.int .i64 3) := by rw [hwb, World.cell?_alloc_at _ _ _ _ rfl]; rfl
          rw [← hwb]
          clear hwb
          go_region_law (first
            | (go_simp; go_at_call_of 16 (Value.int .i64 l); refine (implFmt _ _).mono ?_; rintro e w2 ⟨rfl, hb2⟩; have q1 := cell_below (w := wb.drew) hb2 (by exact k1) (by exact hk))
            | (go_simp; go_at_call 16; refine (implFmt _ _).mono ?_; rintro e w3 ⟨rfl, hb3⟩))
          all_goals
            go_wp2_with fail
            go_ret
            exact ⟨ret_str (by rw [e.out]; try rfl), below_call (below_call hbx.drew hb2) hb3⟩
        · go_enter Try.func31, Try.ntmps31
          go_wp2_with (first
            | (go_at_call 55; refine (isSet_any _ _).mono ?_; rintro e w2 ⟨rfl, rfl⟩; rw [hv.out]))
          obtain ⟨wb, hwb⟩ : ∃ wb, wb = w.alloc (.cells #[.int .i64 l, .int .i64 4] 40) := ⟨_, rfl⟩
          have hbx : Below w.heap.size w wb := by rw [hwb]; go_grown
          have hk : w.heap.size < wb.heap.size := by rw [hwb]; simp
          have k0 : wb.cell? ⟨w.heap.size, 0, none⟩ = some (.int .i64 l) := by rw [hwb, World.cell?_alloc_at _ _ _ _ rfl]; rfl
          have k1 : wb.cell? ⟨w.heap.size, 1, none⟩ = some (.int .i64 4) := by rw [hwb, World.cell?_alloc_at _ _ _ _ rfl]; rfl
          rw [← hwb]
          clear hwb
          go_region_law (first
            | (go_simp; go_at_call_of 16 (Value.int .i64 l); refine (implFmt _ _).mono ?_; rintro e w2 ⟨rfl, hb2⟩; have q1 := cell_below (w := wb.drew) hb2 (by exact k1) (by exact hk))
            | (go_simp; go_at_call 16; refine (implFmt _ _).mono ?_; rintro e w3 ⟨rfl, hb3⟩))
          all_goals
            go_wp2_with fail
            go_ret
            exact ⟨ret_str (by rw [e.out]; try rfl), below_call (below_call hbx.drew hb2) hb3⟩
  · have e := hide (fmtD_no (l := l) (r := r) (by rw [hv]; simp))
    replace hv := hide hv
    go_enter Try.func31, Try.ntmps31
    go_wp2_with (first
      | (go_at_call 55; refine (isSet_any _ _).mono ?_; rintro e w2 ⟨rfl, rfl⟩; rw [hv.out]))
    go_ret
    exact ⟨ret_str (by rw [e.out]; try rfl), by go_grown⟩
end Go.Proofs.Ytgoggljmifjlfaa
