/-
  Walks of slices.EqualFunc at lists of lists.
  Conditions: as each theorem says.
-/
import Derived.Test.YtooiobcghobefaaGreatDoorEq
namespace Go.Proofs.YtooiobcghobefaaGreatDoor
open Go.RowKit
set_option linter.unusedVariables false

set_option maxHeartbeats 1600000 in
set_option maxRecDepth 100000 in
theorem eqfunc (A B : Option Addr) (n c m d : Nat) (xss yss : List (List Int)) (w : World) (hx : RowsAt w w.heap.size A n xss) (hy : RowsAt w w.heap.size B m yss) :
    Calls Tryz.prog 32 #[.slice A n c, .slice B m d, .func (.func 33) #[] #[]] w (RetQuiet w (.bool (xss == yss))) := by
  have hn := rows_bound hx
  have hm := rows_bound hy
  have lx := hx.1
  have ly := hy.1
  by_cases hnm : n = m
  · subst hnm
    replace lx := hide lx
    replace ly := hide ly
    go_enter Tryz.func32, Tryz.ntmps32
    go_wp2_with fail
    go_loopw [7, 8, 9, 17] (fun _ _ _ i wr => ∃ k q : Nat, k ≤ n ∧ i = .int .i64 (k : Int) ∧ xss.take k = yss.take k ∧ wr = w.drewN q) (fun _ _ _ i _ => n - (intOf i).toNat)
    case atStart => exact ⟨0, 0, Nat.zero_le _, rfl, by simp, rfl⟩
    case round =>
      obtain ⟨k, q, hk, rfl, ht, hwr⟩ := hrel
      have hsz : wr.heap.size = w.heap.size := by rw [hwr]; rfl
      by_cases hlt : k < n
      · obtain ⟨b, o, xs, A', c', rfl, hbb, hx1, hc1, hr1⟩ := at_row (show RowsAt wr w.heap.size A n xss by rw [hwr]; exact hx) hlt
        obtain ⟨b', o', ys, B', d', rfl, hbb', hy1, hc2, hr2⟩ := at_row (show RowsAt wr w.heap.size B n yss by rw [hwr]; exact hy) hlt
        rw [← hsz] at hr1 hr2
        replace hwr := hide hwr
        replace ht := hide ht
        replace hx1 := hide hx1
        replace hy1 := hide hy1
        replace hsz := hide hsz
        have hcall := sameints A' B' xs.length c' ys.length d' xs ys wr hr1 hr2
        rcases hq : (xs == ys) with _ | _
        · rw [hq] at hcall
          have e := hide (rows_ne_of_at hx1.out hy1.out hq)
          replace hcall := hide hcall
          replace hq := hide hq
          clear hr1 hr2
          go_wp2_with fail
          refine hcall.out.mono ?_
          rintro e2 w3 ⟨rfl, nq, rfl⟩
          go_wp2_with fail
          go_ret
          exact ⟨ret_bool e.out.symm, _, by rw [hwr.out, World.drewN_drewN]⟩
        · rw [hq] at hcall
          rw [beq_iff_eq] at hq
          subst hq
          have e := hide (take_eq_succ ht.out hx1.out hy1.out)
          replace hcall := hide hcall
          clear hr1 hr2
          go_wp2_with fail
          refine hcall.out.mono ?_
          rintro e2 w3 ⟨rfl, nq, rfl⟩
          go_wp2_with fail
          go_roundw
          case rel => exact ⟨k + 1, q + nq, by omega, by go_num, e.out, by rw [hwr.out, World.drewN_drewN]⟩
          case measure => simp [intOf]; omega
      · obtain rfl : k = n := by omega
        replace ht := hide ht
        replace hwr := hide hwr
        clear hsz
        go_wp2_with fail
        go_ret
        exact ⟨ret_bool (by
          rw [eq_comm, beq_iff_eq]
          have := ht.out
          rwa [List.take_of_length_le (by rw [lx.out]; exact Nat.le_refl _), List.take_of_length_le (by rw [ly.out]; exact Nat.le_refl _)] at this), _, hwr.out⟩
  · have hq : ((n : Int) != (m : Int)) = true := by rw [bne_iff_ne]; omega
    have e : (xss == yss) = false := by rw [beq_eq_false_iff_ne]; rintro rfl; omega
    rw [e]
    clear e hnm lx ly
    go_enter Tryz.func32, Tryz.ntmps32
    go_wp2_with fail
    go_ret
    exact ⟨rfl, 0, rfl⟩

end Go.Proofs.YtooiobcghobefaaGreatDoor
