/-
  Walks of EqualTables, in the program and in the reference.
  Conditions: as each theorem says.
-/
import Derived.Test.YtgoggljmifjlfaaEqF
namespace Go.Proofs.Ytgoggljmifjlfaa
open Go.RowKit
set_option linter.unusedVariables false

set_option maxHeartbeats 1600000 in
set_option maxRecDepth 100000 in
theorem implEqT (m1 m2 : Int) (A B : Option Addr) (n c m d : Nat) (xss yss : List (List Int)) (w : World) (hx : RowsAt w w.heap.size A n xss) (hy : RowsAt w w.heap.size B m yss) :
    Calls Try.prog 47 #[.agg #[.int .i64 m1, .slice A n c], .agg #[.int .i64 m2, .slice B m d]] w (RetVal w (.bool (tabEqB m1 m2 xss yss))) := by
  rcases hm : (m1 == m2) with _ | _
  · have e := hide (show tabEqB m1 m2 xss yss = false by simp [tabEqB, hm])
    go_enter Try.func47, Try.ntmps47
    go_wp2_with fail
    go_ret
    exact ⟨ret_bool e.out.symm, by go_grown⟩
  · have e := hide (show tabEqB m1 m2 xss yss = (xss == yss) by simp [tabEqB, hm])
    rcases hxy : (xss == yss) with _ | _
    all_goals
      rw [hxy] at e
      replace hxy := hide hxy
      go_enter Try.func47, Try.ntmps47
      go_wp2_with fail
      refine (eqfunc _ _ _ _ _ _ xss yss _ (hx.later ?_) (hy.later ?_)).mono ?_
      · go_grown
      · go_grown
      rintro e2 w1 ⟨rfl, q, rfl⟩
      rw [hxy.out]
      go_wp2_with fail
      go_ret
      exact ⟨ret_bool e.out.symm, below_drewN (by go_grown) _⟩

set_option maxHeartbeats 1600000 in
set_option maxRecDepth 100000 in
theorem specEqT (m1 m2 : Int) (A B : Option Addr) (n c m d : Nat) (xss yss : List (List Int)) (w : World) (hx : RowsAt w w.heap.size A n xss) (hy : RowsAt w w.heap.size B m yss) :
    Calls Try.prog 46 #[.agg #[.int .i64 m1, .slice A n c], .agg #[.int .i64 m2, .slice B m d]] w (RetVal w (.bool (tabEqB m1 m2 xss yss))) := by
  have hn := rows_bound hx
  have hm' := rows_bound hy
  rcases hm : (m1 == m2) with _ | _
  · have e := hide (show tabEqB m1 m2 xss yss = false by simp [tabEqB, hm])
    have hq : (m1 != m2) = true := by rw [bne, hm]; rfl
    go_enter Try.func46, Try.ntmps46
    go_wp2_with fail
    go_ret
    exact ⟨ret_bool e.out.symm, by go_grown⟩
  · have e0 := hide (show tabEqB m1 m2 xss yss = (xss == yss) by simp [tabEqB, hm])
    have hq : (m1 != m2) = false := by rw [bne, hm]; rfl
    have lx := hx.1
    have ly := hy.1
    by_cases hnm : n = m
    · subst hnm
      replace lx := hide lx
      replace ly := hide ly
      go_enter Try.func46, Try.ntmps46
      go_wp2_with fail
      obtain ⟨wb, hwb⟩ : ∃ wb, wb = (w.alloc (.cells #[.int .i64 m1, .slice A n c] 54)).alloc (.cells #[.int .i64 m2, .slice B n d] 54) := ⟨_, rfl⟩
      have hbx : Below w.heap.size w wb := by rw [hwb]; go_grown
      have hx' := hx.later hbx
      have hy' := hy.later hbx
      have k1 : wb.cell? ⟨w.heap.size, 1, none⟩ = some (.slice A n c) := by rw [hwb, World.cell?_alloc_past _ _ _ (by simp), World.cell?_alloc_at _ _ _ _ rfl]; rfl
      have j1 : wb.cell? ⟨w.heap.size + 1, 1, none⟩ = some (.slice B n d) := by rw [hwb, World.cell?_alloc_at _ _ _ _ (by simp)]; rfl
      rw [← hwb]
      clear hwb hx hy hm
      go_loopw [5] (fun i wr => ∃ k q : Nat, k ≤ n ∧ i = .int .i64 (k : Int) ∧ xss.take k = yss.take k ∧ wr = wb.drewN q) (fun i _ => n - (intOf i).toNat)
      case atStart => exact ⟨0, 0, Nat.zero_le _, rfl, by simp, rfl⟩
      case round =>
        obtain ⟨k, q, hk, rfl, ht, hwr⟩ := hrel
        have hsz : wr.heap.size = wb.heap.size := by rw [hwr]; rfl
        replace k1 : wr.cell? ⟨w.heap.size, 1, none⟩ = some (.slice A n c) := by rw [hwr]; exact k1
        replace j1 : wr.cell? ⟨w.heap.size + 1, 1, none⟩ = some (.slice B n d) := by rw [hwr]; exact j1
        have hbw : Below w.heap.size w wr := by rw [hwr]; exact below_drewN hbx _
        by_cases hlt : k < n
        · obtain ⟨b, o, xs, A', c', rfl, hbb, hx1, hc1, hr1⟩ := at_row (show RowsAt wr wb.heap.size A n xss by rw [hwr]; exact hx') hlt
          obtain ⟨b', o', ys, B', d', rfl, hbb', hy1, hc2, hr2⟩ := at_row (show RowsAt wr wb.heap.size B n yss by rw [hwr]; exact hy') hlt
          rw [← hsz] at hr1 hr2
          replace hwr := hide hwr
          replace ht := hide ht
          replace hx1 := hide hx1
          replace hy1 := hide hy1
          replace hsz := hide hsz
          have hcall : ∀ z, Calls Try.prog 66 #[.slice A' xs.length c', .slice B' ys.length d'] (wr.drewN z) fun e w'' => e = .returned (.bool (xs == ys)) ∧ ∃ m, w'' = wr.drewN m := fun z =>
            Calls.quiet_of (l2ints A' B' xs.length c' ys.length d' xs ys (wr.drewN z) hr1 hr2)
          clear hx' hy'
          rcases hq : (xs == ys) with _ | _
          · rw [hq] at hcall
            have e := hide (rows_ne_of_at hx1.out hy1.out hq)
            replace hcall := hide hcall
            replace hq := hide hq
            clear hr1 hr2
            go_wp2_with fail
            go_quiet ((go_at_call 66; exact hcall.out _))
            go_wp2_with fail
            go_ret
            exact ⟨ret_bool (by rw [e0.out, e.out]), below_drewN hbw _⟩
          · rw [hq] at hcall
            rw [beq_iff_eq] at hq
            subst hq
            have e := hide (take_eq_succ ht.out hx1.out hy1.out)
            replace hcall := hide hcall
            clear hr1 hr2
            go_wp2_with fail
            go_quiet ((go_at_call 66; exact hcall.out _))
            go_wp2_with fail
            go_roundw
            case rel => exact ⟨k + 1, q + nq, by omega, by go_num, e.out, by rw [hwr.out, World.drewN_drewN]⟩
            case measure => simp [intOf]; omega
        · obtain rfl : k = n := by omega
          replace ht := hide ht
          replace hwr := hide hwr
          clear hsz hx' hy'
          go_wp2_with fail
          go_ret
          exact ⟨ret_bool (by
            rw [e0.out, eq_comm, beq_iff_eq]
            have := ht.out
            rwa [List.take_of_length_le (by rw [lx.out]; exact Nat.le_refl _), List.take_of_length_le (by rw [ly.out]; exact Nat.le_refl _)] at this), hbw⟩
    · have hq2 : ((n : Int) != (m : Int)) = true := by rw [bne_iff_ne]; omega
      have e := hide (show (xss == yss) = false by rw [beq_eq_false_iff_ne]; rintro rfl; omega)
      clear hnm lx ly hx hy
      go_enter Try.func46, Try.ntmps46
      go_wp2_with fail
      go_ret
      exact ⟨ret_bool (by rw [e0.out, e.out]), by go_grown⟩
end Go.Proofs.Ytgoggljmifjlfaa
