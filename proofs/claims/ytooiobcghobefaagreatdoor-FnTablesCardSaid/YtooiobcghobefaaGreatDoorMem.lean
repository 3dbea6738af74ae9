/-
  Walks of Members and CountMembers, in the program and in the reference.
  Conditions: as each theorem says.
-/
import Derived.Test.YtooiobcghobefaaGreatDoorAttr
namespace Go.Proofs.YtooiobcghobefaaGreatDoor
open Go.RowKit
set_option linter.unusedVariables false

set_option maxHeartbeats 800000 in
set_option maxRecDepth 100000 in
theorem implMem_yes (x : Int) (w : World) (hv : validB x = true) : Calls Tryz.prog 39 #[.int .i64 x] w (RetRow 3 w ((memK x 5).map (Value.int .i64))) := by
  replace hv := hide hv
  go_enter Tryz.func39, Tryz.ntmps39
  go_wp2_with fail
  go_loopw [3, 4] (fun l i wr => ∃ (k N c : Nat) (A : Option Addr), k ≤ 5 ∧ i = .int .i64 (k : Int) ∧ l = .slice A N c ∧ wr.ownsRow w.heap.size 3 1 (.slice A N c) N ((memK x k).map (Value.int .i64)) ∧ Below w.heap.size w wr) (fun _ i _ => 5 - (intOf i).toNat)
  case atStart => exact ⟨0, 0, 0, _, by omega, rfl, rfl, own_start w _, (Below.refl _ _).alloc (Nat.le_refl _) _⟩
  case round =>
    obtain ⟨k, N, c, A, hk, rfl, rfl, hown, hb⟩ := hrel
    have hN : N ≤ 5 := by have := own_len hown; rw [List.length_map] at this; have := memK_len x k; omega
    by_cases hlt : k < 5
    · rcases hh : hasB x k with _ | _
      · have hn := hide (memK_no x k hh)
        replace hh := hide hh
        go_wp2_with (first
          | (go_at_call 59; refine (isSet_any _ _).mono ?_; rintro e w' ⟨rfl, rfl⟩; rw [hv.out])
          | (go_at_call 60; refine (has_any _ _ _ (by omega)).mono ?_; rintro e w' ⟨rfl, rfl⟩; rw [hh.out]))
        go_roundw
        case rel => exact ⟨k + 1, N, c, A, by omega, by go_num, rfl, by rw [hn.out]; exact hown, hb⟩
        case measure => simp [intOf]; omega
      · have hn := hide (memK_yes x k hh)
        replace hh := hide hh
        go_wp2_with (first
          | (go_at_call 59; refine (isSet_any _ _).mono ?_; rintro e w' ⟨rfl, rfl⟩; rw [hv.out])
          | (go_at_call 60; refine (has_any _ _ _ (by omega)).mono ?_; rintro e w' ⟨rfl, rfl⟩; rw [hh.out])
          | (at_builtin; refine wpList_push elemInt rfl (.tmp 17) (.tmp 19) wr _ rfl w.heap.size (.slice A N c) N _ rfl rfl hown rfl (by omega) hb.size ?_; intro A' c' w1 hown' hg hat))
        go_roundw
        case rel => exact ⟨k + 1, N + 1, c', A', by omega, by go_num, rfl, by rw [hn.out]; exact own_snoc hown' rfl, below_push hb hb.size hown hg⟩
        case measure => simp [intOf]; omega
    · obtain rfl : k = 5 := by omega
      go_wp2_with (go_at_call 59; refine (isSet_any _ _).mono ?_; rintro e w' ⟨rfl, rfl⟩; rw [hv.out])
      go_ret
      exact ⟨A, N, c, rfl, hown, hb⟩
set_option maxRecDepth 100000 in
theorem implMem_no (x : Int) (w : World) (hv : validB x = false) : Calls Tryz.prog 39 #[.int .i64 x] w (RetRow 3 w []) := by
  replace hv := hide hv
  go_enter Tryz.func39, Tryz.ntmps39
  go_wp2_with fail
  refine wp_loop_rounds 1 ?_
  rw [rounds_succ]
  go_wp2_with (go_at_call 59; refine (isSet_any _ _).mono ?_; rintro e w' ⟨rfl, rfl⟩; rw [hv.out])
  go_ret
  exact ⟨_, 0, 0, rfl, own_start w _, (Below.refl _ _).alloc (Nat.le_refl _) _⟩
theorem implMem (x : Int) (w : World) : Calls Tryz.prog 39 #[.int .i64 x] w (RetRow 3 w ((memL x).map (Value.int .i64))) := by
  rcases validB_or x with h | h
  · rw [memL_yes x h]; exact implMem_yes x w h
  · rw [memL_no x h]; exact implMem_no x w h

set_option maxHeartbeats 800000 in
set_option maxRecDepth 100000 in
theorem specMem_yes (x : Int) (w : World) (hv : validB x = true) : Calls Tryz.prog 45 #[.int .i64 x] w (RetRow 3 w ((memK x 5).map (Value.int .i64))) := by
  replace hv := hide hv
  go_enter Tryz.func45, Tryz.ntmps45
  go_wp2_with fail
  go_loopw [3, 4] (fun l i wr => ∃ (k N c : Nat) (A : Option Addr), k ≤ 5 ∧ i = .int .i64 (k : Int) ∧ l = .slice A N c ∧ wr.ownsRow w.heap.size 3 1 (.slice A N c) N ((memK x k).map (Value.int .i64)) ∧ Below w.heap.size w wr) (fun _ i _ => 5 - (intOf i).toNat)
  case atStart => exact ⟨0, 0, 0, _, by omega, rfl, rfl, own_start w _, (Below.refl _ _).alloc (Nat.le_refl _) _⟩
  case round =>
    obtain ⟨k, N, c, A, hk, rfl, rfl, hown, hb⟩ := hrel
    have hN : N ≤ 5 := by have := own_len hown; rw [List.length_map] at this; have := memK_len x k; omega
    by_cases hlt : k < 5
    · rcases hh : hasB x k with _ | _
      · have hn := hide (memK_no x k hh)
        rw [← hasB_def] at hh
        go_wp2_with (first
          | (go_at_call 56; refine (l2valid _ _).mono ?_; rintro e w' ⟨rfl, rfl⟩; rw [hv.out]))
        go_roundw
        case rel => exact ⟨k + 1, N, c, A, by omega, by go_num, rfl, by rw [hn.out]; exact hown, hb⟩
        case measure => simp [intOf]; omega
      · have hn := hide (memK_yes x k hh)
        rw [← hasB_def] at hh
        go_wp2_with (first
          | (go_at_call 56; refine (l2valid _ _).mono ?_; rintro e w' ⟨rfl, rfl⟩; rw [hv.out])
          | (at_builtin; refine wpList_push elemInt rfl (.tmp 19) (.tmp 21) wr _ rfl w.heap.size (.slice A N c) N _ rfl rfl hown rfl (by omega) hb.size ?_; intro A' c' w1 hown' hg hat))
        go_roundw
        case rel => exact ⟨k + 1, N + 1, c', A', by omega, by go_num, rfl, by rw [hn.out]; exact own_snoc hown' rfl, below_push hb hb.size hown hg⟩
        case measure => simp [intOf]; omega
    · obtain rfl : k = 5 := by omega
      go_wp2
      go_ret
      exact ⟨A, N, c, rfl, hown, hb⟩
set_option maxRecDepth 100000 in
theorem specMem_no (x : Int) (w : World) (hv : validB x = false) : Calls Tryz.prog 45 #[.int .i64 x] w (RetRow 3 w []) := by
  replace hv := hide hv
  go_enter Tryz.func45, Tryz.ntmps45
  go_wp2_with fail
  refine wp_loop_rounds 1 ?_
  rw [rounds_succ]
  go_wp2_with (go_at_call 56; refine (l2valid _ _).mono ?_; rintro e w' ⟨rfl, rfl⟩; rw [hv.out])
  go_ret
  exact ⟨_, 0, 0, rfl, own_start w _, (Below.refl _ _).alloc (Nat.le_refl _) _⟩
theorem specMem (x : Int) (w : World) : Calls Tryz.prog 45 #[.int .i64 x] w (RetRow 3 w ((memL x).map (Value.int .i64))) := by
  rcases validB_or x with h | h
  · rw [memL_yes x h]; exact specMem_yes x w h
  · rw [memL_no x h]; exact specMem_no x w h
end Go.Proofs.YtooiobcghobefaaGreatDoor
