/-
  Walks of IsTable, in the program and in the reference: the tables.
  Conditions: as each theorem says.
-/
import Derived.Test.YtooiobcghobefaaGreatDoorIsTab
namespace Go.Proofs.YtooiobcghobefaaGreatDoor
open Go.RowKit
set_option linter.unusedVariables false

set_option maxHeartbeats 1600000 in
set_option maxRecDepth 100000 in
theorem implIsTab (m : Int) (A : Option Addr) (n c : Nat) (zss : List (List Int)) (w : World) (h : RowsAt w w.heap.size A n zss) :
    Calls Tryz.prog 11 #[.agg #[.int .i64 m, .slice A n c]] w (RetVal w (.bool (isTabB m zss))) := by
  have hn := rows_bound h
  have lz := hide h.1
  have h' := h.later (W := w.alloc (.cells #[.int .i64 m, .slice A n c] 26)) (by go_grown)
  by_cases h1 : m < 1
  · have e := hide (show isTabB m zss = false by unfold isTabB; simp; omega)
    have d1 : decide (m < 1) = true := by simp; omega
    clear h h'
    go_enter Tryz.func11, Tryz.ntmps11
    go_wp2_with fail
    go_ret
    exact ⟨ret_bool e.out.symm, by go_grown⟩
  · have d1 : decide (m < 1) = false := by simp; omega
    by_cases h2 : 5 < m
    · have e := hide (show isTabB m zss = false by unfold isTabB; simp; omega)
      have d2 : decide (5 < m) = true := by simp; omega
      clear h h'
      go_enter Tryz.func11, Tryz.ntmps11
      go_wp2_with fail
      go_ret
      exact ⟨ret_bool e.out.symm, by go_grown⟩
    · have d2 : decide (5 < m) = false := by simp; omega
      by_cases h3 : 40 < n
      · have e := hide (show isTabB m zss = false by unfold isTabB; have := lz.out; simp; omega)
        have d3 : decide ((40 : Int) < n) = true := by simp; omega
        clear h h'
        go_enter Tryz.func11, Tryz.ntmps11
        go_wp2_with fail
        go_ret
        exact ⟨ret_bool e.out.symm, by go_grown⟩
      · have d3 : decide ((40 : Int) < n) = false := by simp; omega
        have hgood : zss.all (fun zs => isRowB zs m) = true → isTabB m zss = true := fun ha => by
          unfold isTabB; rw [ha]; have := lz.out; simp; omega
        replace hgood := hide hgood
        clear h
        go_enter Tryz.func11, Tryz.ntmps11
        go_wp2_with fail
        go_loop [4, 22] (fun _ i => ∃ k : Nat, k ≤ n ∧ i = .int .i64 (k : Int) ∧ (zss.take k).all (fun zs => isRowB zs m) = true) (fun _ i => n - (intOf i).toNat)
        case atStart => exact ⟨0, by omega, rfl, by simp⟩
        case round =>
          obtain ⟨k, hk, rfl, hall⟩ := hrel
          by_cases hlt : k < n
          · obtain ⟨b, o, zs, A', c', rfl, hbb, hz1, hc1, hr⟩ := at_row h' hlt
            rcases hcb : isRowB zs m with _ | _
            · have e := hide (isTabB_bad hz1 hcb)
              replace hcb := hide hcb
              replace hz1 := hide hz1
              replace hr := hide hr
              replace hall := hide hall
              replace h' := hide h'
              go_wp2_with (go_at_call 34; refine (isRow_any _ _ _ _ _ _ hr.out).mono ?_; rintro e w' ⟨rfl, rfl⟩; rw [hcb.out])
              go_ret
              exact ⟨ret_bool e.out.symm, by go_grown⟩
            · have e := hide (all_take_succ (p := fun zs => isRowB zs m) hall hz1 hcb)
              replace hcb := hide hcb
              replace hz1 := hide hz1
              replace hr := hide hr
              replace hall := hide hall
              replace h' := hide h'
              go_wp2_with (go_at_call 34; refine (isRow_any _ _ _ _ _ _ hr.out).mono ?_; rintro e w' ⟨rfl, rfl⟩; rw [hcb.out])
              go_round
              case rel => exact ⟨k + 1, by omega, by go_num, e.out⟩
              case measure => simp [intOf]; omega
          · obtain rfl : k = n := by omega
            have e := hide (hgood.out (all_whole hall (by rw [lz.out]; exact Nat.le_refl _)))
            replace hall := hide hall
            replace h' := hide h'
            go_wp2_with fail
            go_ret
            exact ⟨ret_bool e.out.symm, by go_grown⟩
set_option maxHeartbeats 1600000 in
set_option maxRecDepth 100000 in
theorem specIsTab (m : Int) (A : Option Addr) (n c : Nat) (zss : List (List Int)) (w : World) (h : RowsAt w w.heap.size A n zss) :
    Calls Tryz.prog 9 #[.agg #[.int .i64 m, .slice A n c]] w (RetVal w (.bool (isTabB m zss))) := by
  have hn := rows_bound h
  have lz := hide h.1
  go_enter Tryz.func9, Tryz.ntmps9
  go_wp2_with fail
  obtain ⟨wb, hwb⟩ : ∃ wb, wb = w.alloc (.cells #[.int .i64 m, .slice A n c] 26) := ⟨_, rfl⟩
  have hbx : Below w.heap.size w wb := by rw [hwb]; go_grown
  have h' := h.later hbx
  have k0 : wb.cell? ⟨w.heap.size, 0, none⟩ = some (.int .i64 m) := by rw [hwb, World.cell?_alloc_at _ _ _ _ rfl]; rfl
  have k1 : wb.cell? ⟨w.heap.size, 1, none⟩ = some (.slice A n c) := by rw [hwb, World.cell?_alloc_at _ _ _ _ rfl]; rfl
  rw [← hwb]
  clear hwb h
  go_loopw [3] (fun i wr => ∃ k q : Nat, k ≤ n ∧ i = .int .i64 (k : Int) ∧ (zss.take k).all (fun zs => isRowB zs m) = true ∧ wr = wb.drewN q) (fun i _ => n - (intOf i).toNat)
  case atStart => exact ⟨0, 0, by omega, rfl, by simp, rfl⟩
  case round =>
    obtain ⟨k, q, hk, rfl, hall, hwr⟩ := hrel
    have hsz : wr.heap.size = wb.heap.size := by rw [hwr]; rfl
    replace k0 : wr.cell? ⟨w.heap.size, 0, none⟩ = some (.int .i64 m) := by rw [hwr]; exact k0
    replace k1 : wr.cell? ⟨w.heap.size, 1, none⟩ = some (.slice A n c) := by rw [hwr]; exact k1
    have hbw : Below w.heap.size w wr := by rw [hwr]; exact below_drewN hbx _
    by_cases hlt : k < n
    · obtain ⟨b, o, zs, A', c', rfl, hbb, hz1, hc1, hr⟩ := at_row (show RowsAt wr wb.heap.size A n zss by rw [hwr]; exact h') hlt
      rw [← hsz] at hr
      have hcall : ∀ z, Calls Tryz.prog 30 #[.slice A' zs.length c', .int .i64 m] (wr.drewN z) fun e w'' => e = .returned (.bool (isRowB zs m)) ∧ ∃ m, w'' = wr.drewN m := fun z =>
        Calls.quiet_of ((l3row_any A' zs.length c' zs m (wr.drewN z) hr).mono fun e w' ⟨h1, h2⟩ => ⟨h1, 0, h2.symm⟩)
      replace hwr := hide hwr
      replace hsz := hide hsz
      replace h' := hide h'
      rcases hcb : isRowB zs m with _ | _
      · have e := hide (isTabB_bad hz1 hcb)
        rw [hcb] at hcall
        replace hcall := hide hcall
        replace hz1 := hide hz1
        replace hall := hide hall
        clear hr hcb
        go_wp2_with fail
        go_quiet ((go_at_call 30; exact hcall.out _))
        go_wp2_with fail
        go_ret
        exact ⟨ret_bool e.out.symm, below_drewN hbw _⟩
      · have e := hide (all_take_succ (p := fun zs => isRowB zs m) hall hz1 hcb)
        rw [hcb] at hcall
        replace hcall := hide hcall
        replace hz1 := hide hz1
        replace hall := hide hall
        clear hr hcb
        go_wp2_with fail
        go_quiet ((go_at_call 30; exact hcall.out _))
        go_wp2_with fail
        go_roundw
        case rel => exact ⟨k + 1, q + nq, by omega, by go_num, e.out, by rw [hwr.out, World.drewN_drewN]⟩
        case measure => simp [intOf]; omega
    · obtain rfl : k = n := by omega
      have hal := all_whole hall (by rw [lz.out]; exact Nat.le_refl _)
      replace hwr := hide hwr
      replace hsz := hide hsz
      replace h' := hide h'
      replace hall := hide hall
      rcases hm : (decide (1 ≤ m) && decide (m ≤ 5)) with _ | _
      · have e := hide (show isTabB m zss = false by rw [isTabB, hm]; rfl)
        replace hm := hide hm
        clear hal
        go_wp2_with (go_at_call 31; refine (l1in _ _ _ false _ hm.out).mono ?_; rintro e w' ⟨rfl, rfl⟩)
        go_ret
        exact ⟨ret_bool e.out.symm, hbw⟩
      · have e := hide (show isTabB m zss = decide ((k : Int) ≤ 40) by rw [isTabB, hm, hal, lz.out]; simp; omega)
        replace hm := hide hm
        clear hal
        go_wp2_with (go_at_call 31; refine (l1in _ _ _ true _ hm.out).mono ?_; rintro e w' ⟨rfl, rfl⟩)
        go_ret
        exact ⟨ret_bool e.out.symm, hbw⟩
end Go.Proofs.YtooiobcghobefaaGreatDoor
